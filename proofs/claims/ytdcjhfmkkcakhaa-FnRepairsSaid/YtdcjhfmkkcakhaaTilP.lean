/-
  The list of all tilings of a set of cells, in order (a plain model): its length, its members; a list of dominoes that tiles the set is one of them. No program in sight.
-/
import Derived.Test.YtdcjhfmkkcakhaaDp
import Derived.Test.YtdcjhfmkkcakhaaTil
namespace Go.Proofs.Ytdcjhfmkkcakhaa
open Go.ChangeShapes Go.WideShapes Go.ChangeAt Go.RowKit Go.Deep
set_option linter.unusedVariables false

def dmAt (q : Nat) (z : Bool) : Dm := ((cellOf q).1, (cellOf q).2, z)
def fitD (s : Nat) (d : Dm) : Bool := okD d && (s &&& ownD d == ownD d)
def tils : Nat → Nat → List (List Dm)
  | 0, s => if s = 0 then [[]] else []
  | f + 1, s => if s = 0 then [[]] else
      (if fitD s (dmAt (lowb s) false) then (tils f (bdiff s (ownD (dmAt (lowb s) false)))).map (dmAt (lowb s) false :: ·) else []) ++
      (if fitD s (dmAt (lowb s) true) then (tils f (bdiff s (ownD (dmAt (lowb s) true)))).map (dmAt (lowb s) true :: ·) else [])
def tilD (f s : Nat) (z : Bool) : List (List Dm) := if fitD s (dmAt (lowb s) z) then (tils f (bdiff s (ownD (dmAt (lowb s) z)))).map (dmAt (lowb s) z :: ·) else []
theorem tils_zero (f : Nat) : tils f 0 = [[]] := by cases f <;> simp [tils]
theorem tils_succ (f : Nat) {s : Nat} (h : s ≠ 0) : tils (f + 1) s = tilD f s false ++ tilD f s true := by rw [tils, if_neg h]; rfl
theorem dm_facts : ∀ q : Fin 64, ((okD (dmAt q.val false) == decide (q.val % 8 < 7)) && (okD (dmAt q.val true) == decide (q.val < 56)) && (!decide (q.val % 8 < 7) || ownD (dmAt q.val false) == 2 ^ q.val ||| 2 ^ (q.val + 1)) && (!decide (q.val < 56) || ownD (dmAt q.val true) == 2 ^ q.val ||| 2 ^ (q.val + 8)) && (ordD (dmAt q.val false) == 2 * (q.val : Int)) && (ordD (dmAt q.val true) == 2 * (q.val : Int) + 1)) = true := by decide +kernel
theorem dm_ok {q : Nat} (hq : q < 64) : okD (dmAt q false) = decide (q % 8 < 7) ∧ okD (dmAt q true) = decide (q < 56) ∧ (q % 8 < 7 → ownD (dmAt q false) = 2 ^ q ||| 2 ^ (q + 1)) ∧ (q < 56 → ownD (dmAt q true) = 2 ^ q ||| 2 ^ (q + 8)) ∧ ordD (dmAt q false) = 2 * (q : Int) ∧ ordD (dmAt q true) = 2 * (q : Int) + 1 := by
  have := dm_facts ⟨q, hq⟩
  simp only [Bool.and_eq_true, Bool.or_eq_true, beq_iff_eq, Bool.not_eq_true', decide_eq_false_iff_not] at this
  obtain ⟨⟨⟨⟨⟨a1, a2⟩, a3⟩, a4⟩, a5⟩, a6⟩ := this
  exact ⟨a1, a2, fun h => a3.resolve_left (fun e => e h), fun h => a4.resolve_left (fun e => e h), a5, a6⟩
theorem len_map_cons (d : Dm) (l : List (List Dm)) : (l.map (d :: ·)).length = l.length := List.length_map ..
theorem tilD_len {f s : Nat} (ih : ∀ s, s < 18446744073709551616 → ((tils f s).length : Int) = covs (tilesL 2) f s) (hs : s < 18446744073709551616) (h0 : s ≠ 0) :
    ((tilD f s false).length : Int) + ((tilD f s true).length : Int) = covSum (fun own => covs (tilesL 2) f (bdiff s own)) s (tilesL 2 (lowb s)) := by
  have hl := (lowb_spec hs h0).1
  obtain ⟨a1, a2, a3, a4, _, _⟩ := dm_ok hl
  rw [show tilesL 2 (lowb s) = (if lowb s % 8 < 7 then [2 ^ lowb s ||| 2 ^ (lowb s + 1)] else []) ++ (if lowb s < 56 then [2 ^ lowb s ||| 2 ^ (lowb s + 8)] else []) from tilesL_two ⟨lowb s, hl⟩, covSum_app]
  congr 1
  · unfold tilD fitD
    rw [a1]
    by_cases h7 : lowb s % 8 < 7
    · rw [if_pos h7, covSum_one, a3 h7, decide_eq_true h7, Bool.true_and]
      by_cases hx : (s &&& (2 ^ lowb s ||| 2 ^ (lowb s + 1)) == (2 ^ lowb s ||| 2 ^ (lowb s + 1))) = true
      · rw [if_pos hx, if_pos hx, List.length_map]; exact ih _ (bdiff_lt hs)
      · rw [if_neg hx, if_neg hx]; rfl
    · rw [if_neg h7, decide_eq_false h7, Bool.false_and, if_neg (by decide)]; rfl
  · unfold tilD fitD
    rw [a2]
    by_cases h7 : lowb s < 56
    · rw [if_pos h7, covSum_one, a4 h7, decide_eq_true h7, Bool.true_and]
      by_cases hx : (s &&& (2 ^ lowb s ||| 2 ^ (lowb s + 8)) == (2 ^ lowb s ||| 2 ^ (lowb s + 8))) = true
      · rw [if_pos hx, if_pos hx, List.length_map]; exact ih _ (bdiff_lt hs)
      · rw [if_neg hx, if_neg hx]; rfl
    · rw [if_neg h7, decide_eq_false h7, Bool.false_and, if_neg (by decide)]; rfl
theorem tils_len : ∀ (f s : Nat), s < 18446744073709551616 → ((tils f s).length : Int) = covs (tilesL 2) f s := by
  intro f
  induction f with
  | zero =>
    intro s _
    unfold tils covs
    split <;> rfl
  | succ f ih =>
    intro s hs
    by_cases h0 : s = 0
    · subst h0; rw [tils_zero, covs_zero]; rfl
    · rw [tils_succ f h0, covs_succ _ _ h0, List.length_append, ← tilD_len ih hs h0]; push_cast; rfl
/-! ### the members -/
theorem tilD_mem {f s : Nat} {z : Bool} {t : List Dm} : t ∈ tilD f s z ↔ fitD s (dmAt (lowb s) z) = true ∧ ∃ t' ∈ tils f (bdiff s (ownD (dmAt (lowb s) z))), t = dmAt (lowb s) z :: t' := by
  unfold tilD
  split
  · rename_i h
    rw [List.mem_map]
    constructor
    · rintro ⟨t', h1, rfl⟩; exact ⟨h, t', h1, rfl⟩
    · rintro ⟨_, t', h1, rfl⟩; exact ⟨t', h1, rfl⟩
  · rename_i h
    constructor
    · intro h1; cases h1
    · rintro ⟨h1, _⟩; exact absurd h1 h
theorem tils_mem {f s : Nat} (h0 : s ≠ 0) {t : List Dm} : t ∈ tils (f + 1) s ↔ ∃ z, t ∈ tilD f s z := by
  rw [tils_succ f h0, List.mem_append]
  constructor
  · rintro (h | h)
    · exact ⟨false, h⟩
    · exact ⟨true, h⟩
  · rintro ⟨z, h⟩
    cases z
    · exact .inl h
    · exact .inr h
theorem dmAt_ord {q : Nat} (hq : q < 64) (z : Bool) : ordD (dmAt q z) = 2 * (q : Int) + (if z then 1 else 0) := by
  obtain ⟨_, _, _, _, a5, a6⟩ := dm_ok hq
  cases z
  · rw [a5]; simp
  · rw [a6]; simp
theorem own_low {s : Nat} {d : Dm} (h : fitD s d = true) : okD d = true ∧ s &&& ownD d = ownD d := by
  unfold fitD at h
  simpa using h
theorem dmAt_bit {q : Nat} (hq : q < 64) {z : Bool} (h : okD (dmAt q z) = true) : (ownD (dmAt q z)).testBit q = true := by
  obtain ⟨a1, a2, a3, a4, _, _⟩ := dm_ok hq
  cases z
  · rw [a1, decide_eq_true_eq] at h
    rw [a3 h, two_or_bit]; simp
  · rw [a2, decide_eq_true_eq] at h
    rw [a4 h, two_or_bit]; simp
/-- behind the domino on the least cell all cells lie further on -/
theorem low_rest {s : Nat} (hs : s < 18446744073709551616) (h0 : s ≠ 0) {z : Bool} (h : fitD s (dmAt (lowb s) z) = true) (h1 : bdiff s (ownD (dmAt (lowb s) z)) ≠ 0) : lowb s < lowb (bdiff s (ownD (dmAt (lowb s) z))) := by
  obtain ⟨hok, _⟩ := own_low h
  obtain ⟨l1, l2, l3⟩ := lowb_spec hs h0
  obtain ⟨m1, m2, _⟩ := lowb_spec (bdiff_lt hs) h1
  rw [bdiff_bit hs (ownD_lt hok), Bool.and_eq_true] at m2
  rcases Nat.lt_trichotomy (lowb s) (lowb (bdiff s (ownD (dmAt (lowb s) z)))) with e | e | e
  · exact e
  · rw [← e, dmAt_bit l1 hok] at m2; simp at m2
  · rw [l3 _ e] at m2; simp at m2
theorem tils_take : ∀ (f s : Nat) (p : Option Dm) (t : List Dm), s < 18446744073709551616 → (∀ e, p = some e → okD e = true ∧ (s ≠ 0 → ordD e < 2 * (lowb s : Int))) → t ∈ tils f s → takeP s p t = some 0 := by
  intro f
  induction f with
  | zero =>
    intro s p t hs hp ht
    unfold tils at ht
    split at ht
    · rename_i h; subst h
      rw [List.mem_singleton] at ht; subst ht; rfl
    · cases ht
  | succ f ih =>
    intro s p t hs hp ht
    by_cases h0 : s = 0
    · subst h0
      rw [tils_zero, List.mem_singleton] at ht
      subst ht; rfl
    · obtain ⟨z, hz⟩ := (tils_mem h0).1 ht
      obtain ⟨hf, t', ht', rfl⟩ := tilD_mem.1 hz
      have hl := (lowb_spec hs h0).1
      have hf' := hf
      unfold fitD at hf'
      have hb : prB p (dmAt (lowb s) z) = true := by
        unfold prB
        cases hpe : p with
        | none => rfl
        | some e =>
          obtain ⟨h1, h2⟩ := hp e hpe
          have h3 := h2 h0
          have h4 := dmAt_ord hl z
          show befD e _ = true
          unfold befD
          rw [h1, (own_low hf).1, Bool.true_and, Bool.true_and, decide_eq_true_eq, h4]
          split <;> omega
      rw [takeP_cons, hf', hb, if_pos (by rfl)]
      refine ih _ _ _ (bdiff_lt hs) (fun e he => ?_) ht'
      injection he with he
      subst he
      refine ⟨(own_low hf).1, fun h1 => ?_⟩
      have h2 := low_rest hs h0 hf h1
      have h4 := dmAt_ord hl z
      rw [h4]
      split <;> omega
/-- a domino list that tiles begins at the least cell -/
theorem dm_of {d : Dm} (h : okD d = true) : d = dmAt (idxN (d.1, d.2.1)) d.2.2 := by
  obtain ⟨k1, _⟩ := domOk_cells h
  unfold dmAt
  rw [of_idxN k1]
theorem take_ord : ∀ (l : List Dm) (s u : Nat) (d : Dm), okD d = true → takeP s (some d) l = some u → ∀ e ∈ l, ordD d < ordD e := by
  intro l
  induction l with
  | nil => intro s u d _ _ e he; cases he
  | cons c l ih =>
    intro s u d hd h e he
    rw [takeP_cons] at h
    split at h
    · rename_i hc
      simp only [Bool.and_eq_true] at hc
      have hb : befD d c = true := hc.2
      unfold befD at hb
      simp only [Bool.and_eq_true, decide_eq_true_eq] at hb
      rcases List.mem_cons.1 he with rfl | he
      · exact hb.2
      · exact Int.lt_trans hb.2 (ih _ _ _ hb.1.2 h e he)
    · cases h
theorem own_min {d : Dm} (h : okD d = true) : idxN (d.1, d.2.1) < 64 ∧ (ownD d).testBit (idxN (d.1, d.2.1)) = true ∧ (∀ i, (ownD d).testBit i = true → idxN (d.1, d.2.1) ≤ i) ∧ ordD d = 2 * (idxN (d.1, d.2.1) : Int) + (if d.2.2 then 1 else 0) := by
  have hq : idxN (d.1, d.2.1) < 64 := idxN_lt (domOk_cells h).1
  have e := dm_of h
  obtain ⟨q, hqe⟩ : ∃ q, q = idxN (d.1, d.2.1) := ⟨_, rfl⟩
  obtain ⟨z, hz⟩ : ∃ z, z = d.2.2 := ⟨_, rfl⟩
  rw [← hqe] at hq e ⊢
  rw [← hz] at e ⊢
  rw [e] at h ⊢
  refine ⟨hq, dmAt_bit hq h, fun i hi => ?_, dmAt_ord hq z⟩
  obtain ⟨a1, a2, a3, a4, _, _⟩ := dm_ok hq
  cases z
  · rw [a1, decide_eq_true_eq] at h
    rw [a3 h, two_or_bit] at hi
    simp at hi; omega
  · rw [a2, decide_eq_true_eq] at h
    rw [a4 h, two_or_bit] at hi
    simp at hi; omega
theorem take_low {l : List Dm} {s : Nat} {d : Dm} {p : Option Dm} (hs : s < 18446744073709551616) (h : takeP s p (d :: l) = some 0) :
    s ≠ 0 ∧ idxN (d.1, d.2.1) = lowb s ∧ okD d = true ∧ s &&& ownD d = ownD d ∧ takeP (bdiff s (ownD d)) (some d) l = some 0 := by
  obtain ⟨hu, hsub, _⟩ := takeP_some (d :: l) s 0 p hs h
  rw [takeP_cons] at h
  split at h
  · rename_i hc
    simp only [Bool.and_eq_true, beq_iff_eq] at hc
    obtain ⟨⟨hd, ho⟩, _⟩ := hc
    obtain ⟨q1, q2, q3, q4⟩ := own_min hd
    have hsd : s.testBit (idxN (d.1, d.2.1)) = true := sub_bit ho _ q2
    have h0 : s ≠ 0 := by intro e; rw [e] at hsd; simp at hsd
    obtain ⟨l1, l2, l3⟩ := lowb_spec hs h0
    have hge : lowb s ≤ idxN (d.1, d.2.1) := by
      rcases Nat.lt_or_ge (idxN (d.1, d.2.1)) (lowb s) with e | e
      · rw [l3 _ e] at hsd; cases hsd
      · exact e
    have hcov : (covers (d :: l)).testBit (lowb s) = true := by
      have h1 : (bdiff s (covers (d :: l))).testBit (lowb s) = false := by rw [← hu]; simp
      rw [bdiff_bit hs (covers_lt _), l2] at h1
      simpa using h1
    have hcov2 := hcov
    rw [covers_bit, decide_eq_true_eq] at hcov
    obtain ⟨e, he, hoe, hbe⟩ := hcov
    obtain ⟨r1, r2, r3, r4⟩ := own_min hoe
    have hse : s.testBit (idxN (e.1, e.2.1)) = true := sub_bit hsub _ (by rw [covers_bit, decide_eq_true_eq]; exact ⟨e, he, hoe, r2⟩)
    have hle := r3 _ hbe
    refine ⟨h0, ?_, hd, ho, h⟩
    rcases List.mem_cons.1 he with rfl | he
    · omega
    · have h5 := take_ord l _ _ d hd h e he
      rw [q4, r4] at h5
      have : idxN (d.1, d.2.1) ≤ idxN (e.1, e.2.1) := by
        split at h5 <;> split at h5 <;> omega
      omega
  · cases h
theorem tils_all : ∀ (f s : Nat) (p : Option Dm) (t : List Dm), s < 18446744073709551616 → card s ≤ f → takeP s p t = some 0 → t ∈ tils f s := by
  intro f
  induction f with
  | zero =>
    intro s p t hs hc ht
    have h0 : s = 0 := (card_zero hs).1 (by omega)
    subst h0
    cases t with
    | nil => simp [tils]
    | cons d l => exact absurd rfl (take_low hs ht).1
  | succ f ih =>
    intro s p t hs hc ht
    cases t with
    | nil =>
      have h0 : some s = some 0 := ht
      injection h0 with h0
      subst h0
      rw [tils_zero]; simp
    | cons d l =>
      obtain ⟨h0, h1, h2, h3, h4⟩ := take_low hs ht
      rw [tils_mem h0]
      have e := dm_of h2
      rw [h1] at e
      refine ⟨d.2.2, tilD_mem.2 ⟨?_, l, ?_, by rw [← e]⟩⟩
      · rw [← e]; unfold fitD; rw [h2, h3]; simp
      · rw [← e]
        have hne : ownD d ≠ 0 := by
          intro e0
          have := (own_min h2).2.1
          rw [e0] at this; simp at this
        exact ih _ _ _ (bdiff_lt hs) (sub_card hs (ownD_lt h2) h3 hne hc) h4
/-- the tilings of a region, and nothing else -/
theorem tils_iff {rs : List Int} (h : regOk rs = true) (t : List Dm) : t ∈ tils 64 (regSet rs) ↔ isTiling rs t = true := by
  have hs := regSet_lt h
  unfold isTiling
  rw [h, Bool.true_and, beq_iff_eq]
  constructor
  · intro ht
    exact tils_take 64 _ none t hs (fun e he => by cases he) ht
  · intro ht
    have : card (regSet rs) ≤ 64 := by
      have := card_cells (regSet rs)
      rw [← this]; exact cellsBy_len _ _
    exact tils_all 64 _ none t hs this ht
end Go.Proofs.Ytdcjhfmkkcakhaa

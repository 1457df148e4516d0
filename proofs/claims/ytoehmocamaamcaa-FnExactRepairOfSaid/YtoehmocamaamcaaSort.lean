/-
  Contracts of the functions that order dominoes (order, IsDominoBefore, SortDominoes): what each returns, as a function of its arguments; nothing that was there is written; at most 1048576 dominoes.
-/
import Derived.Test.YtoehmocamaamcaaColors
import Derived.Test.YtoehmocamaamcaaApp
import Derived.Test.YtoehmocamaamcaaSeg
import Derived.Deep.CutBlock
import Derived.Deep.CutRange
import Derived.Deep.DeepMust
namespace Go.Proofs.Ytoehmocamaamcaa
open Go.ChangeShapes Go.WideShapes Go.ChangeAt Go.RowKit Go.Deep
set_option linter.unusedVariables false

def ordD (d : Dm) : Int := 2 * (d.2.1 * 8 + d.1) + (if d.2.2 then 1 else 0)
def okD (d : Dm) : Bool := domOk d.1 d.2.1 d.2.2
def befD (d e : Dm) : Bool := okD d && okD e && decide (ordD d < ordD e)
theorem ord_rng {d : Dm} (h : okD d = true) : 0 ≤ ordD d ∧ ordD d ≤ 127 := by
  have := cellOk_iff.1 (domOk_cells h).1
  unfold ordD; split <;> omega
theorem ord_inj {d e : Dm} (hd : okD d = true) (he : okD e = true) (h : ordD d = ordD e) : d = e := by
  obtain ⟨x, y, z⟩ := d
  obtain ⟨a, b, c⟩ := e
  have h1 := cellOk_iff.1 (domOk_cells hd).1
  have h2 := cellOk_iff.1 (domOk_cells he).1
  unfold ordD at h
  dsimp only at h h1 h2
  have hz : z = c := by
    cases z <;> cases c <;> simp at h ⊢
    all_goals omega
  subst hz
  have : x = a ∧ y = b := by split at h <;> omega
  rw [this.1, this.2]
def posD (out : List Dm) (d : Dm) : Nat → Nat
  | 0 => 0
  | k + 1 => if ordD d < ordD (dAt out k) then posD out d k else k + 1
def insD (out : List Dm) (d : Dm) : List Dm := if 0 < posD out d out.length ∧ dAt out (posD out d out.length - 1) = d then out else out.take (posD out d out.length) ++ d :: out.drop (posD out d out.length)
def addD (out : List Dm) (d : Dm) : List Dm := if okD d then insD out d else out
def sortD (l : List Dm) : List Dm := l.foldl addD []
theorem posD_le (out : List Dm) (d : Dm) : ∀ k, posD out d k ≤ k := by
  intro k
  induction k with
  | zero => simp [posD]
  | succ k ih => rw [posD]; split <;> omega
theorem posD_hi (out : List Dm) (d : Dm) : ∀ k i, posD out d k ≤ i → i < k → ordD d < ordD (dAt out i) := by
  intro k
  induction k with
  | zero => intro i _ h; omega
  | succ k ih =>
    intro i h1 h2
    rw [posD] at h1
    split at h1
    · rename_i h
      rcases Nat.lt_or_ge i k with h3 | h3
      · exact ih i h1 h3
      · obtain rfl : i = k := by omega
        exact h
    · omega
theorem posD_lo (out : List Dm) (d : Dm) : ∀ k, 0 < posD out d k → ordD (dAt out (posD out d k - 1)) ≤ ordD d := by
  intro k
  induction k with
  | zero => intro h; simp [posD] at h
  | succ k ih =>
    intro h
    rw [posD] at h ⊢
    split at h
    · rename_i h1; rw [if_pos h1]; exact ih h
    · rename_i h1; rw [if_neg h1]; simp only [Nat.add_sub_cancel]; omega
theorem insD_len (out : List Dm) (d : Dm) : (insD out d).length ≤ out.length + 1 := by
  have := posD_le out d out.length
  unfold insD
  split
  · omega
  · simp; omega
theorem sortD_snoc {l : List Dm} {k : Nat} {d : Dm} (h : l[k]? = some d) : sortD (l.take (k + 1)) = addD (sortD (l.take k)) d := by
  unfold sortD; rw [take_snoc_at h]; simp
theorem addD_len (out : List Dm) (d : Dm) : (addD out d).length ≤ out.length + 1 := by
  unfold addD; split
  · exact insD_len _ _
  · omega
theorem foldD_len (l : List Dm) : ∀ out : List Dm, (l.foldl addD out).length ≤ out.length + l.length := by
  induction l with
  | nil => intro out; exact Nat.le_refl _
  | cons d l ih => intro out; have := ih (addD out d); have := addD_len out d; rw [List.foldl_cons, List.length_cons]; omega
theorem sortD_len (l : List Dm) : (sortD l).length ≤ l.length := by have := foldD_len l []; simpa [sortD] using this
/-- Valid, and strictly in order. -/
structure Sor (out : List Dm) : Prop where
  ok : ∀ i < out.length, okD (dAt out i) = true
  lt : ∀ j < out.length, ∀ i < j, ordD (dAt out i) < ordD (dAt out j)
theorem dAt_ins (out : List Dm) (d : Dm) {p : Nat} (hp : p ≤ out.length) (i : Nat) : dAt (out.take p ++ d :: out.drop p) i = if i < p then dAt out i else if i = p then d else dAt out (i - 1) := by
  unfold dAt
  have e : (out.take p).length = p := by rw [List.length_take]; omega
  rw [List.getElem?_append, e]
  by_cases h1 : i < p
  · rw [if_pos h1, if_pos h1, List.getElem?_take, if_pos h1]
  · rw [if_neg h1, if_neg h1]
    by_cases h2 : i = p
    · subst h2; simp
    · rw [if_neg h2, show i - p = (i - 1 - p) + 1 by omega, List.getElem?_cons_succ, List.getElem?_drop, show p + (i - 1 - p) = i - 1 by omega]
theorem Sor.ins {out : List Dm} (h : Sor out) {d : Dm} (hd : okD d = true) : Sor (insD out d) := by
  unfold insD
  have hp := posD_le out d out.length
  have hhi := posD_hi out d out.length
  have hlo := posD_lo out d out.length
  generalize posD out d out.length = p at *
  split
  · exact h
  · rename_i hn
    have hlt : ∀ i < p, ordD (dAt out i) < ordD d := by
      intro i hi
      have h0 := hlo (by omega)
      have hne : ordD (dAt out (p - 1)) ≠ ordD d := fun e => hn ⟨by omega, ord_inj (h.ok _ (by omega)) hd e⟩
      rcases Nat.lt_or_ge i (p - 1) with h1 | h1
      · have := h.lt (p - 1) (by omega) i h1; omega
      · obtain rfl : i = p - 1 := by omega
        omega
    have hl : (out.take p ++ d :: out.drop p).length = out.length + 1 := by simp; omega
    refine ⟨fun i hi => ?_, fun j hj i hij => ?_⟩
    · rw [hl] at hi
      rw [dAt_ins out d hp]
      split
      · exact h.ok i (by omega)
      · split
        · exact hd
        · exact h.ok _ (by omega)
    · rw [hl] at hj
      rw [dAt_ins out d hp, dAt_ins out d hp]
      by_cases j1 : j < p
      · rw [if_pos j1, if_pos (by omega)]
        exact h.lt j (by omega) i hij
      · rw [if_neg j1]
        by_cases j2 : j = p
        · rw [if_pos j2, if_pos (by omega)]; exact hlt i (by omega)
        · rw [if_neg j2]
          by_cases i1 : i < p
          · rw [if_pos i1]; exact Int.lt_trans (hlt i i1) (hhi (j - 1) (by omega) (by omega))
          · rw [if_neg i1]
            by_cases i2 : i = p
            · rw [if_pos i2]; exact hhi (j - 1) (by omega) (by omega)
            · rw [if_neg i2]; exact h.lt (j - 1) (by omega) (i - 1) (by omega)
theorem Sor.add {out : List Dm} (h : Sor out) (d : Dm) : Sor (addD out d) := by
  unfold addD; split
  · rename_i hd; exact h.ins hd
  · exact h
theorem Sor.nil : Sor [] := ⟨fun i hi => by simp at hi, fun j hj => by simp at hj⟩
theorem Sor.fold (l : List Dm) : ∀ {out : List Dm}, Sor out → Sor (l.foldl addD out) := by
  induction l with
  | nil => intro out h; exact h
  | cons d l ih => intro out h; exact ih (h.add d)
theorem sortD_sor (l : List Dm) : Sor (sortD l) := Sor.nil.fold l
/-- The place from the front: the first that is not before. -/
def atD (out : List Dm) (d : Dm) : Nat → Nat → Nat
  | 0, k => k
  | f + 1, k => if befD (dAt out k) d then atD out d f (k + 1) else k
theorem atD_spec (out : List Dm) (d : Dm) : ∀ f k, k ≤ atD out d f k ∧ atD out d f k ≤ k + f ∧ (∀ i, k ≤ i → i < atD out d f k → befD (dAt out i) d = true) ∧ (atD out d f k < k + f → befD (dAt out (atD out d f k)) d = false) := by
  intro f
  induction f with
  | zero => intro k; exact ⟨Nat.le_refl _, Nat.le_refl _, fun i h1 h2 => by simp [atD] at h2; omega, fun h => by simp [atD] at h⟩
  | succ f ih =>
    intro k
    rw [atD]
    cases hb : befD (dAt out k) d
    · rw [if_neg (by decide)]
      exact ⟨Nat.le_refl _, by omega, fun i h1 h2 => by omega, fun _ => hb⟩
    · rw [if_pos rfl]
      obtain ⟨a, b, c, e⟩ := ih (k + 1)
      refine ⟨by omega, by omega, fun i h1 h2 => ?_, fun h => e (by omega)⟩
      rcases Nat.lt_or_ge k i with h3 | h3
      · exact c i (by omega) h2
      · obtain rfl : i = k := by omega
        exact hb
theorem insD_at {out : List Dm} (h : Sor out) {d : Dm} (hd : okD d = true) : insD out d = if atD out d out.length 0 < out.length ∧ dAt out (atD out d out.length 0) = d then out else out.take (atD out d out.length 0) ++ d :: out.drop (atD out d out.length 0) := by
  have hp := posD_le out d out.length
  have hhi := posD_hi out d out.length
  have hlo := posD_lo out d out.length
  obtain ⟨_, ha, hb, hc⟩ := atD_spec out d out.length 0
  unfold insD
  generalize posD out d out.length = p at *
  generalize atD out d out.length 0 = q at *
  rw [Nat.zero_add] at ha hc
  have hbef : ∀ i, i < out.length → (befD (dAt out i) d = true ↔ ordD (dAt out i) < ordD d) := fun i hi => by
    unfold befD; rw [h.ok i hi, hd]; simp
  have hqp : q ≤ p := by
    rcases Nat.lt_or_ge p q with h1 | h1
    · have h2 := (hbef p (by omega)).1 (hb p (by omega) h1)
      have h3 := hhi p (Nat.le_refl _) (by omega)
      omega
    · exact h1
  rcases Nat.lt_or_ge q p with h1 | h1
  · have h2 : ¬ ordD (dAt out q) < ordD d := fun e => by
      have := hc (by omega)
      rw [(hbef q (by omega)).2 e] at this; cases this
    have h3 := hlo (by omega)
    have hq : q = p - 1 := by
      rcases Nat.lt_or_ge q (p - 1) with h4 | h4
      · have := h.lt (p - 1) (by omega) q h4; omega
      · omega
    have he : dAt out q = d := ord_inj (h.ok q (by omega)) hd (by rw [hq] at h2 ⊢; omega)
    rw [if_pos ⟨by omega, by rw [← hq]; exact he⟩, if_pos ⟨by omega, he⟩]
  · obtain rfl : q = p := by omega
    rw [if_neg (fun e => ?_), if_neg (fun e => ?_)]
    · have := hhi q (Nat.le_refl _) e.1
      rw [e.2] at this; omega
    · have h2 := (hbef (q - 1) (by omega)).1 (hb (q - 1) (by omega) (by omega))
      rw [e.2] at h2; omega
theorem info_szD : (Try.prog.info? 45).map (·.size) = some 3 := by kernel_rfl
theorem flat_oneD {l : List Dm} : ∀ v ∈ l.flatMap cD, v.oneCell' = true := by
  intro v hv
  obtain ⟨c, _, hc⟩ := List.mem_flatMap.1 hv
  simp only [cD, List.mem_cons, List.not_mem_nil, or_false] at hc
  rcases hc with rfl | rfl | rfl <;> rfl
theorem copy_shiftD {w : World} {g : Nat} {out : List Dm} {z : Dm} {rest : List Value} (h : Blk w g 45 ((out ++ [z]).flatMap cD ++ rest)) {p dLen sLen od os : Nat} (hp : p < out.length) (ty : TypeId) (dCap sCap : Nat)
    (hd : dLen = out.length - p) (hs : sLen = out.length + 1 - p) (hod : od = (p + 1) * 3) (hos : os = p * 3) :
    (Builtin.copy_ #[43, 43] ty #[.slice (some ⟨g, od, none⟩) dLen dCap, .slice (some ⟨g, os, none⟩) sLen sCap]).run Try.prog w = .ok (goInt (Nat.min sLen dLen)) (w.setCells g od ((out.drop p).flatMap cD)) := by
  subst hd; subst hs; subst hod; subst hos
  have hl : ((out.drop p).flatMap cD).length = (out.length - p) * 3 := by rw [flatMap_len cD 3 (fun _ => rfl), List.length_drop]
  have hml : ((out ++ [z]).flatMap cD).length = (out.length + 1) * 3 := by rw [flatMap_len cD 3 (fun _ => rfl), List.length_append]; rfl
  have hmn : Nat.min (out.length + 1 - p) (out.length - p) = out.length - p := Nat.min_eq_right (by omega)
  refine run_copy_sz (P := Try.prog) w 43 43 ty 45 3 g _ _ _ ⟨g, p * 3, none⟩ _ _ _ Try.underlying43 info_szD ?_ ?_ ?_ ?_ flat_oneD
  · rw [hl, hmn]
  · intro j v hj
    have hj2 : j < (out.length - p) * 3 := by rw [← hl]; exact (List.getElem?_eq_some_iff.1 hj).1
    rw [Addr.add_lit, h.cell, List.getElem?_append_left (by rw [hml]; omega), List.flatMap_append, List.getElem?_append_left (by rw [flatMap_len cD 3 (fun _ => rfl)]; omega)]
    have e : out.flatMap cD = (out.take p).flatMap cD ++ (out.drop p).flatMap cD := by rw [← List.flatMap_append, List.take_append_drop]
    have e2 : ((out.take p).flatMap cD).length = p * 3 := by rw [flatMap_len cD 3 (fun _ => rfl), List.length_take, Nat.min_eq_left (by omega)]
    rw [e, List.getElem?_append_right (by rw [e2]; omega), e2, show p * 3 + j - p * 3 = j by omega]
    exact hj
  · intro j hj
    rw [hl] at hj
    rw [h.cell, List.getElem?_append_left (by rw [hml]; omega), List.getElem?_eq_getElem (by rw [hml]; omega)]; rfl
  · intro j hj
    exact h.frozen _
theorem wpList_apsD {w : World} {ops : Array Oper} {rest : List Oper} {o : Oper} {a : Act} {Q : Exit → Act → World → Prop} (hgd : o.guard = none) (s x : Operand) (ho : o.op = .call { callee := .builtin .append, args := #[s, x], argTypes := #[43, 43] })
    (B : Nat) (v : Value) (l m : List Dm) (A : Option Addr) (c : Nat) (hs : a.eval s = v) (n : Nat) (hx : a.eval x = .slice A n c) (hown : OwD B w v l) (hr : RdD w A m) (hnm : n = m.length) (hB : B ≤ w.heap.size) (hn : l.length ≤ 1048576) (hm : m.length ≤ 1048576)
    (h : ∀ v' w1, OwD B w1 v' (l ++ m) → (∀ w0, Below B w0 w → Below B w0 w1) → wpList Try.prog ops Q rest (a.put o.dst v') w1) :
    wpList Try.prog ops Q (o :: rest) a w := by
  subst hnm
  obtain ⟨_, o1, o2⟩ := hown
  refine wpList_append_src (P := Try.prog) hgd s x 43 ho B 45 (.agg #[.int .i64 0, .int .i64 0, .bool false]) 3 24 Try.underlying43 (by kernel_rfl) rfl (by decide) (by decide) v l.length (l.flatMap cD) hs o1 A m.length c (m.flatMap cD) hx hr.1 flat_oneD hn hm hB (fun v' w1 g1 g2 g3 => ?_)
  rw [← List.length_append, ← List.flatMap_append] at g1
  exact h v' w1 ⟨own_form g1, g1, fun y hy => (List.mem_append.1 hy).elim (o2 y) (hr.2 y)⟩ (fun w0 hb => hb.grown g2 hB (fun k hk => (o1.lt k hk).1))
theorem RdD.nil_ (w : World) (A : Option Addr) : RdD w A [] := ⟨⟨by simp, fun h => absurd h (by simp)⟩, by simp⟩
theorem RdD.take_ {w : World} {A : Option Addr} {l : List Dm} (h : RdD w A l) {k : Nat} (hk : k ≤ l.length) : RdD w A (l.take k) := by
  have h1 := h.1.take (k := k) hk
  have e := flat_take cD 3 (fun _ => rfl) l hk []
  rw [List.append_nil] at e
  rw [e] at h1
  refine ⟨?_, fun x hx => h.2 x (List.mem_of_mem_take hx)⟩
  rw [List.length_take, Nat.min_eq_left hk]; exact h1
theorem RdD.cut_ {w : World} {g : Nat} {l : List Dm} (h : RdD w (some ⟨g, 0, none⟩) l) {k cap : Nat} (hk : k ≤ l.length) (hc : l.length ≤ cap) (hne : ¬ cap = k) : RdD w (some ⟨g, k * 3, none⟩) (l.drop k) := by
  have h1 := h.1.cut (k := k) hk hc
  have e := flat_drop cD 3 (fun _ => rfl) l hk []
  rw [List.append_nil, List.append_nil] at e
  rw [e, if_neg hne] at h1
  refine ⟨?_, fun x hx => h.2 x (List.mem_of_mem_drop hx)⟩
  rw [List.length_drop]
  have e2 : (some (⟨g, 0, none⟩ : Addr)).map (·.add (k * 3)) = some ⟨g, k * 3, none⟩ := by simp [Addr.add_lit]
  rw [e2] at h1
  exact h1
end Go.Proofs.Ytoehmocamaamcaa

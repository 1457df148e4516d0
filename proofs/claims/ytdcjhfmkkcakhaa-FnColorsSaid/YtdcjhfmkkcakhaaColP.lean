/-
  The plain law of FnColors: what the search, the greedy colors and the least number have in common, for dominoes that do not overlap. No program in sight.
-/
import Derived.Test.YtdcjhfmkkcakhaaFew
namespace Go.Proofs.Ytdcjhfmkkcakhaa
open Go.ChangeShapes Go.WideShapes Go.ChangeAt Go.RowKit Go.Deep
set_option linter.unusedVariables false

theorem cAt_snoc_lt {head : List Int} {x : Int} {i : Nat} (h : i < head.length) : cAt (head ++ [x]) i = cAt head i := by
  unfold cAt; rw [List.getElem?_append_left h]
theorem cAt_snoc_eq {head : List Int} {x : Int} : cAt (head ++ [x]) head.length = x := by
  unfold cAt; simp
theorem srch_ok {l : List Dm} {n : Nat} : ∀ (f : Nat) (head o : List Int), srch l n f head = some o → (∀ i < head.length, 0 ≤ cAt head i ∧ cAt head i < n) → (∀ i < head.length, mh l head i (cAt head i) = true) →
    (∀ i < o.length, 0 ≤ cAt o i ∧ cAt o i < n) ∧ ∀ i < o.length, mh l o i (cAt o i) = true := by
  intro f
  induction f with
  | zero => intro head o h h1 h2; injection h with h; subst h; exact ⟨h1, h2⟩
  | succ f ih =>
    intro head o h h1 h2
    rw [srch_succ] at h
    obtain ⟨k, hk, e⟩ := tryC_mem _ _ h
    unfold stepC at e
    split at e
    · rename_i hm
      refine ih _ _ e (fun i hi => ?_) (fun i hi => ?_)
      · rw [List.length_append, List.length_singleton] at hi
        by_cases hlt : i < head.length
        · rw [cAt_snoc_lt hlt]; exact h1 i hlt
        · obtain rfl : i = head.length := by omega
          rw [cAt_snoc_eq]; omega
      · rw [List.length_append, List.length_singleton] at hi
        by_cases hlt : i < head.length
        · rw [cAt_snoc_lt hlt, mh_congr (cs' := head) fun k hk => cAt_snoc_lt (by omega)]; exact h2 i hlt
        · obtain rfl : i = head.length := by omega
          rw [cAt_snoc_eq, mh_congr (cs' := head) fun k hk => cAt_snoc_lt hk]; exact hm
    · cases e
theorem srch_sound {l : List Dm} {n : Nat} {o : List Int} (h : srch l n l.length [] = some o) :
    o.length = l.length ∧ (∀ i < l.length, 0 ≤ cAt o i ∧ cAt o i < n) ∧ ∀ i < l.length, mh l o i (cAt o i) = true := by
  have h0 := (srch_len _ _ _ h).1
  rw [List.length_nil, Nat.zero_add] at h0
  have := srch_ok _ _ _ h (by simp) (by simp)
  rw [h0] at this
  exact ⟨h0, this⟩
theorem srch_full {l : List Dm} {n : Nat} {cs : List Int} (hl : cs.length = l.length) (hr : ∀ i < l.length, 0 ≤ cAt cs i ∧ cAt cs i < n) (hm : ∀ i < l.length, mh l cs i (cAt cs i) = true) : srch l n l.length [] ≠ none :=
  srch_ne (cs := cs) (by rw [hl]; exact hr) (by rw [hl]; exact hm) l.length [] (by simp [hl]) (by simp)
theorem mem_of_cAt {cs : List Int} {P : Int → Prop} (h : ∀ i < cs.length, P (cAt cs i)) : ∀ x ∈ cs, P x := by
  intro x hx
  obtain ⟨i, hi, rfl⟩ := List.mem_iff_getElem.1 hx
  have := h i hi
  rwa [cAt_eq (List.getElem?_eq_getElem hi)] at this
theorem proper_mk {l : List Dm} {cs : List Int} (h : apart l = true) (hl : cs.length = l.length) (hr : ∀ i < l.length, 0 ≤ cAt cs i ∧ cAt cs i < 6) (hm : ∀ i < l.length, mh l cs i (cAt cs i) = true) : proper l cs = true := by
  have h1 : (cs.all fun x => inB x 0 5) = true := List.all_eq_true.2 (mem_of_cAt (P := fun x => inB x 0 5 = true) fun i hi => by
    have := hr i (by omega)
    exact inB_true.2 (by omega))
  have h2 : properTo l cs l.length = true := properTo_iff.2 hm
  simp [proper, h, hl, h1, h2]
/-! ### the least number -/
theorem fewF_spec (g : Nat → Bool) : ∀ (r n k : Nat), k < r → g (n + k) = true → ∃ m : Nat, fewF g r n = (m : Int) ∧ n ≤ m ∧ m ≤ n + k ∧ g m = true ∧ ∀ j, n ≤ j → j < m → g j = false := by
  intro r
  induction r with
  | zero => intro n k h; omega
  | succ r ih =>
    intro n k hk hg
    cases h0 : g n with
    | true => exact ⟨n, by simp [fewF, h0], by omega, by omega, h0, fun j _ _ => by omega⟩
    | false =>
      cases k with
      | zero => rw [Nat.add_zero, h0] at hg; cases hg
      | succ k =>
        obtain ⟨m, e, h1, h2, h3, h4⟩ := ih (n + 1) k (by omega) (by rw [show n + 1 + k = n + (k + 1) by omega]; exact hg)
        refine ⟨m, by rw [fewF, h0]; exact e, by omega, by omega, h3, fun j hj hjm => ?_⟩
        by_cases e0 : j = n
        · subst e0; exact h0
        · exact h4 j (by omega) hjm
theorem fewest_spec {l : List Dm} (h : apart l = true) : ∃ m : Nat, fewest l = (m : Int) ∧ m ≤ 4 ∧ (∃ o, srch l m l.length [] = some o) ∧ ∀ j, j < m → srch l j l.length [] = none := by
  have h4 : (fun n : Nat => (colorR l (n : Int)).isSome) (0 + 4) = true := by
    show (colorR l ((4 : Nat) : Int)).isSome = true
    rw [colorR_yes h (by decide)]
    cases hs : srch l 4 l.length [] with
    | none => exact absurd hs (four l)
    | some o => rfl
  obtain ⟨m, e, _, h2, h3, h5⟩ := fewF_spec (fun n : Nat => (colorR l (n : Int)).isSome) 7 0 4 (by decide) h4
  refine ⟨m, e, by omega, ?_, fun j hj => ?_⟩
  · rw [colorR_yes h (by omega)] at h3
    exact Option.isSome_iff_exists.1 h3
  · have := h5 j (Nat.zero_le _) hj
    rw [colorR_yes h (by omega)] at this
    cases hs : srch l j l.length [] with
    | none => rfl
    | some o => rw [hs] at this; cases this
/-! ### greedy colors -/
theorem findC_ok (l : List Dm) (cs : List Int) (i c' : Nat) (h : mh l cs i c' = true) : ∀ (f c : Nat), c ≤ c' → c' < c + f → mh l cs i (findC l cs i f c : Int) = true := by
  intro f
  induction f with
  | zero => intro c h1 h2; omega
  | succ f ih =>
    intro c h1 h2
    rw [findC]
    split
    · assumption
    · rename_i hm
      by_cases he : c = c'
      · subst he; exact absurd h hm
      · exact ih (c + 1) (by omega) (by omega)
theorem greedyTo_mh (l : List Dm) (k : Nat) : ∀ i < k, mh l (greedyTo l k) i (cAt (greedyTo l k) i) = true := by
  induction k with
  | zero => intro i h; omega
  | succ k ih =>
    intro i hi
    have hlen := greedyTo_len l k
    by_cases hlt : i < k
    · have e : ∀ q, q < k → cAt (greedyTo l (k + 1)) q = cAt (greedyTo l k) q := fun q hq => by rw [greedyTo]; exact cAt_snoc_lt (by omega)
      rw [e i hlt, mh_congr (cs' := greedyTo l k) fun q hq => e q (by omega)]
      exact ih i hlt
    · obtain rfl : i = k := by omega
      have e : cAt (greedyTo l (i + 1)) i = (findC l (greedyTo l i) i (i + 1) 0 : Int) := by
        rw [greedyTo]; conv => lhs; arg 2; rw [← hlen]
        exact cAt_snoc_eq
      rw [e, mh_congr (cs' := greedyTo l i) fun q hq => by rw [greedyTo]; exact cAt_snoc_lt (by omega)]
      have hm : mh l (greedyTo l i) i (i : Nat) = true := mh_iff.2 fun q hq => by
        have := greedyTo_rng l i q hq
        have : (cAt (greedyTo l i) q == (i : Int)) = false := by simp; omega
        rw [this]; rfl
      exact findC_ok l _ i i hm (i + 1) 0 (by omega) (by omega)
/-- one more than the greatest color so far -/
def mostTo (g : List Int) : Nat → Int
  | 0 => 0
  | k + 1 => max (mostTo g k) (cAt g k + 1)
theorem mostTo_nonneg (g : List Int) (k : Nat) : 0 ≤ mostTo g k := by
  induction k with
  | zero => exact Int.le_refl _
  | succ k ih => rw [mostTo]; omega
theorem mostTo_lt (g : List Int) (k : Nat) : ∀ i < k, cAt g i < mostTo g k := by
  induction k with
  | zero => intro i h; omega
  | succ k ih =>
    intro i hi
    rw [mostTo]
    by_cases e : i = k
    · subst e; omega
    · have := ih i (by omega); omega
def tchRow (l : List Dm) (k : Nat) (j : Nat) : Bool := (List.range j).any fun i => touchAt l i k
def tchTo (l : List Dm) (k : Nat) : Bool := (List.range k).any fun k => tchRow l k k
theorem tchRow_succ (l : List Dm) (k j : Nat) : tchRow l k (j + 1) = (tchRow l k j || touchAt l j k) := by simp [tchRow, List.range_succ]
theorem tchTo_succ (l : List Dm) (k : Nat) : tchTo l (k + 1) = (tchTo l k || tchRow l k k) := by simp [tchTo, List.range_succ]
theorem tchTo_iff {l : List Dm} {n : Nat} : tchTo l n = true ↔ ∃ k, k < n ∧ ∃ i, i < k ∧ touchAt l i k = true := by
  simp [tchTo, tchRow]
/-- all that the law asks -/
theorem colors_law {l : List Dm} (h : apart l = true) : ∃ (m : Nat) (c : List Int), fewest l = (m : Int) ∧ m ≤ 4 ∧ colorR l (m : Int) = some c ∧ colorR l ((m : Int) - 1) = none ∧ proper l c = true ∧ (m : Int) ≤ mostTo (greedy l) l.length ∧
    decide (2 ≤ m) = tchTo l l.length ∧ (m = 0 ↔ l.length = 0) ∧ (6 < mostTo (greedy l) l.length ∨ proper l (greedy l) = true) ∧ (greedy l).length = l.length := by
  obtain ⟨m, hm, hm4, ⟨c, hc⟩, hless⟩ := fewest_spec h
  obtain ⟨s1, s2, s3⟩ := srch_sound hc
  have hfew : few l = true := (apart_iff.1 h).1
  have hg : greedy l = greedyTo l l.length := by rw [greedy, if_pos hfew]
  have hgl : (greedy l).length = l.length := by rw [hg]; exact greedyTo_len _ _
  have hgm : ∀ i < l.length, mh l (greedy l) i (cAt (greedy l) i) = true := by rw [hg]; exact greedyTo_mh l l.length
  have hg0 : ∀ i < l.length, 0 ≤ cAt (greedy l) i := fun i hi => by rw [hg]; exact (greedyTo_rng l l.length i hi).1
  have hgt := mostTo_lt (greedy l) l.length
  have hmn := mostTo_nonneg (greedy l) l.length
  refine ⟨m, c, hm, hm4, by rw [colorR_yes h (by omega)]; exact hc, ?_, proper_mk h s1 (fun i hi => by have := s2 i hi; omega) s3, ?_, ?_, ?_, ?_, hgl⟩
  · cases m with
    | zero =>
      have : inB (((0 : Nat) : Int) - 1) 0 6 = false := by decide
      rw [colorR, this, Bool.and_false]; rfl
    | succ m =>
      rw [show ((m + 1 : Nat) : Int) - 1 = (m : Int) by omega, colorR_yes h (by omega)]
      exact hless m (by omega)
  · rcases Int.lt_or_le (mostTo (greedy l) l.length) (m : Int) with hlt | hge
    · exfalso
      refine srch_full (n := (mostTo (greedy l) l.length).toNat) hgl (fun i hi => ⟨hg0 i hi, ?_⟩) hgm (hless _ (by omega))
      have := hgt i hi; omega
    · exact hge
  · rw [Bool.eq_iff_iff, decide_eq_true_eq, tchTo_iff]
    constructor
    · intro h2
      have hne : ∃ k, k < l.length ∧ ∃ i, i < k ∧ touchAt l i k = true := by
        cases Classical.em (∃ k, k < l.length ∧ ∃ i, i < k ∧ touchAt l i k = true) with
        | inl h => exact h
        | inr hno =>
          exfalso
          refine srch_full (n := 1) (cs := List.replicate l.length 0) (by simp) (fun i hi => ?_) (fun i hi => ?_) (hless 1 (by omega))
          · rw [cAt_eq (d := 0) (by rw [List.getElem?_replicate, if_pos hi])]; omega
          · rw [mh_iff]
            intro k hk
            cases ht : touchAt l i k
            · rw [Bool.and_false]
            · exact absurd ⟨i, hi, k, hk, by rw [touchAt_comm]; exact ht⟩ hno
      exact hne
    · rintro ⟨k, hk, i, hi, ht⟩
      have h1 := s2 k hk
      have h2 := s2 i (by omega)
      have h3 := mh_iff.1 (s3 k hk) i hi
      rw [touchAt_comm] at ht
      rw [ht, Bool.and_true] at h3
      have h4 : cAt c i ≠ cAt c k := by simpa using h3
      omega
  · constructor
    · intro e
      subst e
      rcases Nat.eq_zero_or_pos l.length with e | e
      · exact e
      · have := s2 0 e; omega
    · intro e
      have hno : m ≤ 0 := by
        rcases Nat.eq_zero_or_pos m with e2 | e2
        · omega
        · have := hless 0 e2
          rw [e] at this
          cases this
      omega
  · rcases Int.lt_or_le 6 (mostTo (greedy l) l.length) with hlt | hge
    · exact .inl hlt
    · exact .inr (proper_mk h hgl (fun i hi => ⟨hg0 i hi, by have := hgt i hi; omega⟩) hgm)
end Go.Proofs.Ytdcjhfmkkcakhaa

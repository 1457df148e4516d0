/-
  Contracts of IsTiling and IsLayingOrder of both packages; nothing that was there is written; at most 1048576 dominoes.
-/
import Derived.Test.YtoehmocamaamcaaLay
namespace Go.Proofs.Ytoehmocamaamcaa
open Go.ChangeShapes Go.WideShapes Go.ChangeAt Go.RowKit Go.Deep
set_option linter.unusedVariables false

theorem covFold_acc (l : List Dm) (s : Nat) : l.foldl covStep s = s ||| covers l := by
  apply Nat.eq_of_testBit_eq; intro i
  rw [covFold_bit, Nat.testBit_or, covers_bit]
theorem covers_cons {d : Dm} {l : List Dm} (h : okD d = true) : covers (d :: l) = ownD d ||| covers l := by
  show (d :: l).foldl covStep 0 = _
  rw [List.foldl_cons, covFold_acc]
  unfold covStep
  rw [if_pos (show domOk d.1 d.2.1 d.2.2 = true from h), Nat.zero_or]; rfl
def prB (p : Option Dm) (d : Dm) : Bool := match p with
  | none => true
  | some e => befD e d
theorem takeP_cons (s : Nat) (p : Option Dm) (d : Dm) (l : List Dm) : takeP s p (d :: l) = if (okD d && (s &&& ownD d == ownD d) && prB p d) = true then takeP (bdiff s (ownD d)) (some d) l else none := by cases p <;> rfl
theorem takeP_some : ∀ (l : List Dm) (s u : Nat) (p : Option Dm), s < 18446744073709551616 → takeP s p l = some u → u = bdiff s (covers l) ∧ s &&& covers l = covers l ∧ card u + 2 * l.length = card s := by
  intro l
  induction l with
  | nil =>
    intro s u p hs h
    have h : some s = some u := h
    injection h with h
    subst h
    refine ⟨?_, by simp [covers], by simp⟩
    apply Nat.eq_of_testBit_eq; intro i
    rw [bdiff_bit hs (covers_lt _)]; simp [covers]
  | cons d l ih =>
    intro s u p hs h
    obtain ⟨hd, ho, h⟩ : okD d = true ∧ s &&& ownD d = ownD d ∧ takeP (bdiff s (ownD d)) (some d) l = some u := by
      rw [takeP_cons] at h
      split at h
      · rename_i hc
        simp only [Bool.and_eq_true, beq_iff_eq] at hc
        exact ⟨hc.1.1, hc.1.2, h⟩
      · cases h
    have hol := ownD_lt hd
    obtain ⟨h1, h2, h3⟩ := ih _ _ _ (bdiff_lt hs) h
    have hcl := covers_lt l
    have hsub : s &&& covers (d :: l) = covers (d :: l) := by
      refine sub_of_bits fun i hi => ?_
      rw [covers_cons hd, Nat.testBit_or, Bool.or_eq_true] at hi
      rcases hi with hi | hi
      · exact sub_bit ho i hi
      · have := sub_bit h2 i hi
        rw [bdiff_bit hs hol, Bool.and_eq_true] at this; exact this.1
    refine ⟨?_, hsub, ?_⟩
    · rw [h1]
      apply Nat.eq_of_testBit_eq; intro i
      rw [bdiff_bit (bdiff_lt hs) hcl, bdiff_bit hs hol, bdiff_bit hs (covers_lt _), covers_cons hd, Nat.testBit_or, Bool.not_or, Bool.and_assoc]
    · have h4 := card_diff hs hol ho
      have h5 : card (ownD d) = 2 := card_own hd
      rw [List.length_cons]; omega
theorem isTiling_cov {rs : List Int} {l : List Dm} : isTiling rs l = (isPartial rs l && (covers l == regSet rs)) := by
  unfold isTiling isPartial
  cases hreg : regOk rs
  · rfl
  · rw [Bool.true_and, Bool.true_and]
    cases ht : takeP (regSet rs) none l with
    | none => rfl
    | some u =>
      have hS := regSet_lt hreg
      obtain ⟨h1, h2, _⟩ := takeP_some l _ _ _ hS ht
      show (some u == some 0) = (true && _)
      rw [Bool.true_and, Bool.eq_iff_iff, beq_iff_eq, beq_iff_eq]
      constructor
      · intro h
        injection h with h
        apply Nat.eq_of_testBit_eq; intro i
        have h3 : (bdiff (regSet rs) (covers l)).testBit i = false := by rw [← h1, h]; simp
        rw [bdiff_bit hS (covers_lt l)] at h3
        cases h4 : (covers l).testBit i
        · cases h5 : (regSet rs).testBit i
          · rfl
          · rw [h4, h5] at h3; cases h3
        · exact (sub_bit h2 i h4).symm
      · intro h
        rw [h1, h]
        congr 1
        apply Nat.eq_of_testBit_eq; intro i
        rw [bdiff_bit hS hS]; simp
theorem isTiling_len {rs : List Int} {l : List Dm} : isTiling rs l = (isPartial rs l && decide (2 * l.length = (regCells rs).length)) := by
  unfold isTiling isPartial
  cases hreg : regOk rs
  · rfl
  · rw [Bool.true_and, Bool.true_and]
    cases ht : takeP (regSet rs) none l with
    | none => rfl
    | some u =>
      have hS := regSet_lt hreg
      obtain ⟨h1, h2, h3⟩ := takeP_some l _ _ _ hS ht
      have hul : u < 18446744073709551616 := by rw [h1]; exact bdiff_lt hS
      rw [regCells_set hreg, card_cells]
      show (some u == some 0) = (true && _)
      rw [Bool.true_and, Bool.eq_iff_iff, beq_iff_eq, decide_eq_true_eq]
      constructor
      · intro h
        injection h with h
        rw [h, (card_zero (by decide)).2 rfl] at h3
        omega
      · intro h
        congr 1
        exact (card_zero hul).1 (by omega)
def layOK (rs : List Int) (c : Cl) (o : List Dm) (k : Nat) : Bool := match o[k]? with
  | some d => canLayR rs c (o.take k) d
  | none => true
theorem layOK_at {rs : List Int} {c : Cl} {o : List Dm} {k : Nat} {d : Dm} (h : o[k]? = some d) : layOK rs c o k = canLayR rs c (o.take k) d := by unfold layOK; rw [h]
def layOrd (rs : List Int) (c : Cl) (o : List Dm) : Bool := decide ((sortD o).length = o.length) && (isTiling rs (sortD o) && decide (∀ j < o.length, layOK rs c o j = true))
end Go.Proofs.Ytoehmocamaamcaa

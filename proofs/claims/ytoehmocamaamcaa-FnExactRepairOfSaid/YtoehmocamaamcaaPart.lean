/-
  Contracts of IsPartial and IsTiling (both): what each returns, as a function of its arguments; nothing that was there is written; at most 1048576 dominoes.
-/
import Derived.Test.YtoehmocamaamcaaSort
import Derived.Test.YtoehmocamaamcaaCover
import Derived.Test.YtoehmocamaamcaaChanged
namespace Go.Proofs.Ytoehmocamaamcaa
open Go.ChangeShapes Go.WideShapes Go.ChangeAt Go.RowKit Go.Deep
set_option linter.unusedVariables false

def ownD (d : Dm) : Nat := setD d.1 d.2.1 d.2.2
def takeP : Nat → Option Dm → List Dm → Option Nat
  | s, _, [] => some s
  | s, pr, d :: l => if okD d && (s &&& ownD d == ownD d) && (match pr with | none => true | some e => befD e d) then takeP (bdiff s (ownD d)) (some d) l else none
def prevD (l : List Dm) (k : Nat) : Option Dm := if k = 0 then none else l[k - 1]?
def isPartial (rs : List Int) (l : List Dm) : Bool := regOk rs && (takeP (regSet rs) none l).isSome
def isTiling (rs : List Int) (l : List Dm) : Bool := regOk rs && (takeP (regSet rs) none l == some 0)
theorem takeP_step {s k : Nat} {l : List Dm} {d : Dm} (h : l[k]? = some d) : takeP s (prevD l k) (l.drop k) = if okD d && (s &&& ownD d == ownD d) && (match prevD l k with | none => true | some e => befD e d) then takeP (bdiff s (ownD d)) (prevD l (k + 1)) (l.drop (k + 1)) else none := by
  have : prevD l (k + 1) = some d := by simp [prevD, h]
  rw [drop_at h, this]
  rfl
theorem prevD_zero (l : List Dm) : prevD l 0 = none := rfl
theorem prevD_succ {l : List Dm} {j : Nat} {e : Dm} (h : l[j]? = some e) : prevD l (j + 1) = some e := by simp [prevD, h]
theorem ownD_lt {d : Dm} (h : okD d = true) : ownD d < 18446744073709551616 := setD_lt h
theorem part_no {rs : List Int} {l : List Dm} {s k : Nat} {d : Dm} (hT : takeP (regSet rs) none l = takeP s (prevD l k) (l.drop k)) (h : l[k]? = some d) (hn : okD d = false ∨ s &&& ownD d ≠ ownD d ∨ (∃ e, prevD l k = some e ∧ befD e d = false)) : isPartial rs l = false ∧ takeP (regSet rs) none l = none := by
  have e : takeP (regSet rs) none l = none := by
    rw [hT, takeP_step h]
    rcases hn with hn | hn | ⟨e, h1, h2⟩
    · simp [hn]
    · simp [hn]
    · rw [h1]; simp [h2]
  exact ⟨by rw [isPartial, e]; simp, e⟩
theorem dset_d (x y : Int) (z : Bool) (o : Nat) (w : World) (h : okD (x, y, z) = true) (ho : ownD (x, y, z) = o) :
    Calls Try.prog 112 #[.agg #[.int .i64 x, .int .i64 y, .bool z]] w fun e w' => e = .returned (.int .u64 (o : Int)) ∧ Below w.heap.size w w' := by
  subst ho; exact dset_any x y z w h
theorem cellIdx_nat {x y : Int} (h : cellOk x y = true) : cellIdx x y = (idxN (x, y) : Int) := by
  have := cellOk_iff.1 h
  unfold cellIdx idxN
  rw [if_pos h]; dsimp only; omega
def regS (rs : List Int) : Nat := if regOk rs then regSet rs else 0
theorem regS_lt (rs : List Int) : regS rs < 18446744073709551616 := by
  unfold regS; split
  · rename_i h; exact regSet_lt h
  · decide
theorem isPartial_S (rs : List Int) (l : List Dm) : isPartial rs l = (regOk rs && (takeP (regS rs) none l).isSome) := by
  unfold isPartial regS
  cases regOk rs <;> rfl
theorem part_false {rs : List Int} {l : List Dm} {S : Nat} (hS : regS rs = S) (h : takeP S none l = none) : isPartial rs l = false := by rw [isPartial_S, hS, h]; simp
theorem HasCell_S {rs : List Int} {x y : Int} (hc : cellOk x y = true) : (regOk rs && cellOk x y && regHas rs x y) = (regS rs).testBit (idxN (x, y)) := by
  cases h : regOk rs
  · simp [regS, h]
  · have := HasCell_bit h hc
    rw [h] at this
    rw [this, regS, if_pos h]
theorem takeP_none {S s k : Nat} {l : List Dm} {d : Dm} (hT : takeP S none l = takeP s (prevD l k) (l.drop k)) (h : l[k]? = some d) (hn : okD d = false ∨ s &&& ownD d ≠ ownD d ∨ (∃ e, prevD l k = some e ∧ befD e d = false)) : takeP S none l = none := by
  rw [hT, takeP_step h]
  rcases hn with hn | hn | ⟨e, h1, h2⟩
  · simp [hn]
  · simp [hn]
  · rw [h1]; simp [h2]
theorem own_no {S U o : Nat} (hS : S < 18446744073709551616) (hU : U < 18446744073709551616) (ho : o < 18446744073709551616) (h : ∃ n, o.testBit n = true ∧ (S.testBit n = false ∨ U.testBit n = true)) : bdiff S U &&& o ≠ o := by
  intro e
  obtain ⟨n, h1, h2⟩ := h
  have := sub_bit e n h1
  rw [bdiff_bit hS hU] at this
  rcases h2 with h2 | h2 <;> simp [h2] at this
theorem own_yes {S U o n1 n2 : Nat} (hS : S < 18446744073709551616) (hU : U < 18446744073709551616) (ho : o = 2 ^ n1 ||| 2 ^ n2) (h1 : (S.testBit n1 && !U.testBit n1) = true) (h2 : (S.testBit n2 && !U.testBit n2) = true) : bdiff S U &&& o = o := by
  refine sub_of_bits fun i hi => ?_
  rw [bdiff_bit hS hU]
  rw [ho, Nat.testBit_or, Nat.testBit_two_pow, Nat.testBit_two_pow] at hi
  simp only [Bool.or_eq_true, decide_eq_true_eq] at hi
  rcases hi with rfl | rfl
  · exact h1
  · exact h2
theorem dom_idx {x y : Int} {z : Bool} (h : domOk x y z = true) : idxN (x, y) ≠ idxN (sndX x z, sndY y z) := by
  have h1 := cellOk_iff.1 (domOk_cells h).1
  have h2 := cellOk_iff.1 (domOk_cells h).2
  intro e
  have := idxN_inj (c := (x, y)) (d := (sndX x z, sndY y z)) (domOk_cells h).1 (domOk_cells h).2 e
  injection this with e1 e2
  cases z
  · simp only [sndX] at e1; simp [wrap64] at e1; omega
  · simp only [sndY] at e2; simp [wrap64] at e2; omega
theorem card_own {x y : Int} {z : Bool} (h : domOk x y z = true) : card (setD x y z) = 2 := by
  have := card_setL (cs := [(x, y), (sndX x z, sndY y z)]) (by
    intro c hc
    simp only [List.mem_cons, List.not_mem_nil, or_false] at hc
    rcases hc with rfl | rfl
    · exact (domOk_cells h).1
    · exact (domOk_cells h).2) (by
    rw [List.nodup_cons]
    refine ⟨fun hm => ?_, by simp⟩
    rw [List.mem_singleton] at hm
    exact dom_idx h (by rw [hm]))
  have e : setL [(x, y), (sndX x z, sndY y z)] = setD x y z := by unfold setL setD; simp
  rw [e] at this
  exact this
end Go.Proofs.Ytoehmocamaamcaa

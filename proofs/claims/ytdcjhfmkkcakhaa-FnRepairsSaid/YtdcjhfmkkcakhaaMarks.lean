/-
  A slice of 64 marks as a set of indices, and the index of a valid cell as a natural number; no statement is proved here; no condition.
-/
import Derived.Test.YtdcjhfmkkcakhaaSets
namespace Go.Proofs.Ytdcjhfmkkcakhaa
open Go.ChangeShapes Go.WideShapes Go.ChangeAt Go.RowKit Go.Deep
set_option linter.unusedVariables false

theorem info_bool : (Try.prog.info? 4).map (fun i => (i.zero, i.size, i.bytes)) = some (some (.bool false), 1, 1) := by kernel_rfl
def mkB (s : Nat) : List Value := (List.range 64).map fun k => .bool (s.testBit k)
theorem mkB_zero : mkB 0 = List.replicate 64 (.bool false) := by simp [mkB, List.map_const']
theorem mkB_get (s k : Nat) (h : k < 64) : (mkB s)[k]? = some (.bool (s.testBit k)) := by simp [mkB, h]
theorem mkB_set (s k : Nat) : (mkB s).set k (.bool true) = mkB (s ||| 2 ^ k) := by
  apply List.ext_getElem?
  intro i
  by_cases h : i < 64
  · rw [mkB_get _ _ h, List.getElem?_set]
    by_cases hk : k = i
    · subst hk
      rw [if_pos rfl, if_pos (by simpa [mkB] using h), Nat.testBit_or, Nat.testBit_two_pow_self, Bool.or_true]
    · rw [if_neg hk, mkB_get _ _ h, Nat.testBit_or, Nat.testBit_two_pow_of_ne hk, Bool.or_false]
  · rw [List.getElem?_eq_none (by simp [mkB]; omega), List.getElem?_eq_none (by simp [mkB]; omega)]
theorem Blk.getB {w : World} {g : Nat} {E : TypeId} {s k : Nat} (h : Blk w g E (mkB s)) (hk : k < 64) : w.cell? ⟨g, k, none⟩ = some (.bool (s.testBit k)) := by
  rw [h.cell, mkB_get _ _ hk]
theorem Blk.setB {w : World} {g : Nat} {E : TypeId} {s : Nat} (h : Blk w g E (mkB s)) (k : Nat) : Blk (w.setCell ⟨g, k, none⟩ (.bool true)) g E (mkB (s ||| 2 ^ k)) := by
  have := h.set_ k (.bool true)
  rwa [mkB_set] at this
theorem CellIndex_n (x y : Int) (w : World) (h : cellOk x y = true) :
    Calls Try.prog 180 #[.agg #[.int .i64 x, .int .i64 y]] w fun e w' => e = .returned (.int .i64 ((y * 8 + x).toNat : Nat)) ∧ Below w.heap.size w w' := by
  have hc := cellOk_iff.1 h
  have e : cellIdx x y = ((y * 8 + x).toNat : Nat) := by rw [cellIdx, h, if_pos rfl]; omega
  rw [← e]
  exact CellIndex_s x y w
end Go.Proofs.Ytdcjhfmkkcakhaa

/-
  The walk of the law FnExactCountLong: it returns true for all three numbers; no condition.
-/
import Derived.Test.YtoehmocamaamcaaCovL
namespace Go.Proofs.Ytoehmocamaamcaa
open Go.ChangeShapes Go.WideShapes Go.ChangeAt Go.RowKit Go.Deep
set_option linter.unusedVariables false

theorem walk_FnExactCountLong (a b c : Int) (w : World) (_ : I64 a) (_ : I64 b) (_ : I64 c) :
    Calls Try.prog 3 #[.int .i64 a, .int .i64 b, .int .i64 c] w fun e w' => e = .returned (.bool true) ∧ Below w.heap.size w w' := by
  have hB := Below.refl w.heap.size w
  obtain ⟨v, hv⟩ : ∃ v, v = countLong a b c := ⟨_, rfl⟩
  have HV := Lib.hid hv
  clear hv
  go_enter Try.func3, Try.ntmps3
  go_wp2_with (first | (go_at_call 9; refine (CountLong_s _ _ _ _).mono ?_; rintro e w' ⟨rfl, rfl⟩; rw [← HV.out]) | (go_at_call 10; refine (CountLong_i _ _ _ _).mono ?_; rintro e wn ⟨rfl, hbn⟩; have hSz := bl_sz (bl_trans hB (by go_grown)) hbn; replace hB := bl_trans (bl_trans hB (by go_grown)) hbn; rw [← HV.out]; clear hbn))
  go_ret
  exact ⟨rfl, hB⟩
end Go.Proofs.Ytoehmocamaamcaa

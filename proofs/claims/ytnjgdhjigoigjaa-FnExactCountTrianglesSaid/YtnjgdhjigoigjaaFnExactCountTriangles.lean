/-
  The walk of the law FnExactCountTriangles: it returns true for all arguments; no condition.
-/
import Derived.Test.YtnjgdhjigoigjaaAbove
import Derived.Test.YtnjgdhjigoigjaaIn
namespace Go.Proofs.Ytnjgdhjigoigjaa
open Go.ChangeShapes Go.WideShapes Go.ChangeAt Go.RowKit Go.Deep
set_option linter.unusedVariables false

set_option maxRecDepth 100000 in
set_option maxHeartbeats 4000000 in
theorem walk_FnExactCountTriangles (x0 : Int) (w : World) (g0a : I64 x0) :
    Calls Try.prog 3 #[.int .i64 x0] w fun e w' => e = .returned (.bool true) ∧ Below w.heap.size w w' := by
  have hB := Below.refl w.heap.size w
  go_enter Try.func3, Try.ntmps3
  go_wp2_with fail
  (refine (CountTriangles_s _ _).mono ?_; rintro e w1 ⟨rfl, hb1⟩; have s1 := (bl_trans (w := w) (by go_grown) hb1).size; replace hB := bl_trans (bl_trans hB (by go_grown)) hb1; clear hb1)
  go_wp2_with fail
  (refine (CountTriangles_i _ _).mono ?_; rintro e w2 ⟨rfl, hb2⟩; have s2 := (bl_trans (w := w1) (by go_grown) hb2).size; replace hB := bl_trans (bl_trans hB (by go_grown)) hb2; clear hb2)
  go_wp2_with fail
  go_ret
  exact ⟨rfl, (by first | (go_grown; done) | exact bl_trans hB (by go_grown))⟩
end Go.Proofs.Ytnjgdhjigoigjaa

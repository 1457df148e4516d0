/-
  The walk of the law FnExactCornerOk: it returns true for every corner tile; no condition.
-/
import Derived.Test.YtdbnhbffdndkgaaConv
namespace Go.Proofs.Ytdbnhbffdndkgaa
open Go.ChangeShapes Go.WideShapes Go.ChangeAt Go.RowKit Go.Deep

def cornerOk (x y z : Int) : Bool := inB x 0 6 && inB y 0 6 && inB z 0 3

theorem CornerOk_i (x y z : Int) (w : World) :
    Calls Try.prog 21 #[.agg #[.int .i64 x, .int .i64 y, .int .i64 z]] w fun e w' => e = .returned (.bool (cornerOk x y z)) ∧ Below w.heap.size w w' := by
  go_enter Try.func21, Try.ntmps21
  go_wp2_with (go_at_call 59; refine (within_any _ _ _ _).mono ?_; rintro e w' ⟨rfl, rfl⟩)
  all_goals go_ret
  all_goals exact ⟨by simp_all [cornerOk], by go_grown⟩
theorem CornerOk_s (x y z : Int) (w : World) :
    Calls Try.prog 19 #[.agg #[.int .i64 x, .int .i64 y, .int .i64 z]] w fun e w' => e = .returned (.bool (cornerOk x y z)) ∧ Below w.heap.size w w' := by
  go_enter Try.func19, Try.ntmps19
  go_wp2_with (go_at_call 58; refine (l01In_any _ _ _ _).mono ?_; rintro e w' ⟨rfl, rfl⟩)
  all_goals go_ret
  all_goals exact ⟨by simp_all [cornerOk], by go_grown⟩
theorem walk_FnExactCornerOk (x y z : Int) (w : World) (_ : I64 x) (_ : I64 y) (_ : I64 z) :
    Calls Try.prog 5 #[.agg #[.int .i64 x, .int .i64 y, .int .i64 z]] w fun e w' => e = .returned (.bool true) ∧ Below w.heap.size w w' := by
  go_enter Try.func5, Try.ntmps5
  go_wp2_with fail
  (have P := Blk.new w 24 [.int .i64 x, .int .i64 y, .int .i64 z]; have Pc := P.c3)
  (refine (toCorner_any _ _ _ _).mono ?_; rintro e w1 ⟨rfl, hb1⟩; replace P := P.bel (bl_trans (by go_grown) hb1); replace Pc := P.c3)
  go_wp2_with fail
  (refine (CornerOk_s _ _ _ _).mono ?_; rintro e w2 ⟨rfl, hb2⟩; replace P := P.bel (bl_trans (by go_grown) hb2); replace Pc := P.c3)
  go_wp2_with fail
  (refine (toCorner_any _ _ _ _).mono ?_; rintro e w3 ⟨rfl, hb3⟩; replace P := P.bel (bl_trans (by go_grown) hb3); replace Pc := P.c3)
  go_wp2_with fail
  (refine (CornerOk_i _ _ _ _).mono ?_; rintro e w4 ⟨rfl, hb4⟩; replace P := P.bel (bl_trans (by go_grown) hb4); replace Pc := P.c3)
  go_wp2_with fail
  go_ret
  exact ⟨rfl, bl_trans (bl_trans (bl_trans (bl_trans (by go_grown) hb1) hb2) hb3) hb4⟩
end Go.Proofs.Ytdbnhbffdndkgaa

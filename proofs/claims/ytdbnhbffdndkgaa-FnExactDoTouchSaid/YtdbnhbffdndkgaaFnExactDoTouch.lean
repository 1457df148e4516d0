/-
  The walk of the law FnExactDoTouch: it returns true for every two dominoes; no condition.
-/
import Derived.Test.YtdbnhbffdndkgaaTouch
import Derived.Test.YtdbnhbffdndkgaaConv
namespace Go.Proofs.Ytdbnhbffdndkgaa
open Go.ChangeShapes Go.WideShapes Go.ChangeAt Go.RowKit Go.Deep

set_option maxHeartbeats 1000000 in
theorem walk_FnExactDoTouch (x y : Int) (z : Bool) (a b : Int) (c : Bool) (w : World) (_ : I64 x) (_ : I64 y) (_ : I64 a) (_ : I64 b) :
    Calls Try.prog 13 #[.agg #[.int .i64 x, .int .i64 y, .bool z], .agg #[.int .i64 a, .int .i64 b, .bool c]] w fun e w' => e = .returned (.bool true) ∧ Below w.heap.size w w' := by
  (have hB := Below.refl w.heap.size w; have P := (Blk.new w 72 [.int .i64 x, .int .i64 y, .bool z]).alloc (.cells #[.int .i64 a, .int .i64 b, .bool c] 72); have Pc := P.c3; have Q := Blk.new2 w (.cells #[.int .i64 x, .int .i64 y, .bool z] 72) 72 [.int .i64 a, .int .i64 b, .bool c]; have Qc := Q.c3)
  have p0 := bq_cell Pc.1
  have p1 := bq_cell Pc.2.1
  have p2 := bq_cell Pc.2.2
  have q0 := bq_cell Qc.1
  have q1 := bq_cell Qc.2.1
  have q2 := bq_cell Qc.2.2
  go_enter Try.func13, Try.ntmps13
  go_wp2
  (refine wp_region_quiet_bel (by kernel_rfl) (by kernel_rfl) ?_; (repeat (first | go_big_quiet_step (first | (go_at_call 54; exact Calls.bel_of (toDomino_any _ _ _ _)) | (go_at_call 53; exact Calls.bel_of (DoTouch_s _ _ _ _ _ _ _))) | quiet_step (first | (go_at_call 54; exact Calls.bel_of (toDomino_any _ _ _ _)) | (go_at_call 53; exact Calls.bel_of (DoTouch_s _ _ _ _ _ _ _))))); refine wpQuiet_nil ?_; intro wq hw0; obtain ⟨⟨_, hbq⟩, hw1⟩ := hw0; subst hw1; try dsimp only)
  replace hB := bl_trans (bl_trans hB (by go_grown)) hbq
  replace P := P.bel hbq
  replace Pc := P.c3
  replace Q := Q.bel hbq
  replace Qc := Q.c3
  replace p0 := bq_cell Pc.1
  replace p1 := bq_cell Pc.2.1
  replace p2 := bq_cell Pc.2.2
  replace q0 := bq_cell Qc.1
  replace q1 := bq_cell Qc.2.1
  replace q2 := bq_cell Qc.2.2
  clear hbq
  go_wp2
  (refine wp_region_quiet_bel (by kernel_rfl) (by kernel_rfl) ?_; (repeat (first | go_big_quiet_step (first | (go_at_call 54; exact Calls.bel_of (toDomino_any _ _ _ _)) | (go_at_call 55; exact Calls.bel_of (DoTouch_i _ _ _ _ _ _ _))) | quiet_step (first | (go_at_call 54; exact Calls.bel_of (toDomino_any _ _ _ _)) | (go_at_call 55; exact Calls.bel_of (DoTouch_i _ _ _ _ _ _ _))))); refine wpQuiet_nil ?_; intro wq hw0; obtain ⟨⟨_, hbq⟩, hw1⟩ := hw0; subst hw1; try dsimp only)
  go_wp2
  go_ret
  exact ⟨rfl, bl_trans (bl_trans hB (by go_grown)) hbq⟩
end Go.Proofs.Ytdbnhbffdndkgaa

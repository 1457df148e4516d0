/-
  The walk of the law FnExactDominoPrice: it returns true for all prices and every domino; no condition.
-/
import Derived.Test.YtdbnhbffdndkgaaPrices
import Derived.Test.YtdbnhbffdndkgaaConv
namespace Go.Proofs.Ytdbnhbffdndkgaa
open Go.ChangeShapes Go.WideShapes Go.ChangeAt Go.RowKit Go.Deep

set_option maxHeartbeats 1000000 in
theorem walk_FnExactDominoPrice (x y z u a b : Int) (c : Bool) (w : World) (gx : I64 x) (gy : I64 y) (gz : I64 z) (_ : I64 u) (_ : I64 a) (_ : I64 b) :
    Calls Try.prog 14 #[.agg #[.int .i64 x, .int .i64 y, .int .i64 z, .int .i64 u], .agg #[.int .i64 a, .int .i64 b, .bool c]] w fun e w' => e = .returned (.bool true) ∧ Below w.heap.size w w' := by
  (have hB := Below.refl w.heap.size w; have P := (Blk.new w 30 [.int .i64 x, .int .i64 y, .int .i64 z, .int .i64 u]).alloc (.cells #[.int .i64 a, .int .i64 b, .bool c] 72); have Pc := P.c4; have Q := Blk.new2 w (.cells #[.int .i64 x, .int .i64 y, .int .i64 z, .int .i64 u] 30) 72 [.int .i64 a, .int .i64 b, .bool c]; have Qc := Q.c3)
  have p0 := bq_cell Pc.1
  have p1 := bq_cell Pc.2.1
  have p2 := bq_cell Pc.2.2.1
  have p3 := bq_cell Pc.2.2.2
  have q0 := bq_cell Qc.1
  have q1 := bq_cell Qc.2.1
  have q2 := bq_cell Qc.2.2
  go_enter Try.func14, Try.ntmps14
  go_wp2
  (refine wp_region_quiet_bel (by kernel_rfl) (by kernel_rfl) ?_; (repeat (first | go_big_quiet_step (first | (go_at_call 54; exact Calls.bel_of (toDomino_any _ _ _ _)) | (go_at_call 23; exact Calls.bel_of (toPrices_any _ _ _ _ _)) | (go_at_call 56; exact Calls.bel_of (DominoPrice_s _ _ _ _ _ _ _ _))) | quiet_step (first | (go_at_call 54; exact Calls.bel_of (toDomino_any _ _ _ _)) | (go_at_call 23; exact Calls.bel_of (toPrices_any _ _ _ _ _)) | (go_at_call 56; exact Calls.bel_of (DominoPrice_s _ _ _ _ _ _ _ _))))); refine wpQuiet_nil ?_; intro wq hw0; obtain ⟨⟨_, hbq⟩, hw1⟩ := hw0; subst hw1; try dsimp only)
  replace hB := bl_trans (bl_trans hB (by go_grown)) hbq
  replace P := P.bel hbq
  replace Pc := P.c4
  replace Q := Q.bel hbq
  replace Qc := Q.c3
  replace p0 := bq_cell Pc.1
  replace p1 := bq_cell Pc.2.1
  replace p2 := bq_cell Pc.2.2.1
  replace p3 := bq_cell Pc.2.2.2
  replace q0 := bq_cell Qc.1
  replace q1 := bq_cell Qc.2.1
  replace q2 := bq_cell Qc.2.2
  clear hbq
  go_wp2
  (refine wp_region_quiet_bel (by kernel_rfl) (by kernel_rfl) ?_; (repeat (first | go_big_quiet_step (first | (go_at_call 54; exact Calls.bel_of (toDomino_any _ _ _ _)) | (go_at_call 23; exact Calls.bel_of (toPrices_any _ _ _ _ _)) | (go_at_call 57; exact Calls.bel_of (DominoPrice_i _ _ _ _ _ _ _ _ gx gy gz))) | quiet_step (first | (go_at_call 54; exact Calls.bel_of (toDomino_any _ _ _ _)) | (go_at_call 23; exact Calls.bel_of (toPrices_any _ _ _ _ _)) | (go_at_call 57; exact Calls.bel_of (DominoPrice_i _ _ _ _ _ _ _ _ gx gy gz))))); refine wpQuiet_nil ?_; intro wq hw0; obtain ⟨⟨_, hbq⟩, hw1⟩ := hw0; subst hw1; try dsimp only)
  go_wp2
  go_ret
  exact ⟨rfl, bl_trans (bl_trans hB (by go_grown)) hbq⟩
end Go.Proofs.Ytdbnhbffdndkgaa

/-
  The walk of the law FnExactPricesOk: it returns true for all prices; no condition.
-/
import Derived.Test.YtdbnhbffdndkgaaPrices
import Derived.Test.YtdbnhbffdndkgaaConv
namespace Go.Proofs.Ytdbnhbffdndkgaa
open Go.ChangeShapes Go.WideShapes Go.ChangeAt Go.RowKit Go.Deep

theorem walk_FnExactPricesOk (x y z u : Int) (w : World) (gx : I64 x) (gy : I64 y) (gz : I64 z) (_ : I64 u) :
    Calls Try.prog 6 #[.agg #[.int .i64 x, .int .i64 y, .int .i64 z, .int .i64 u]] w fun e w' => e = .returned (.bool true) ∧ Below w.heap.size w w' := by
  (have hB := Below.refl w.heap.size w; have P := Blk.new w 30 [.int .i64 x, .int .i64 y, .int .i64 z, .int .i64 u]; have Pc := P.c4)
  go_enter Try.func6, Try.ntmps6
  go_wp2_with (first | (go_at_call 23; refine (toPrices_any _ _ _ _ _).mono ?_; rintro e wn ⟨rfl, hbn⟩; replace hB := bl_trans (bl_trans hB (by go_grown)) hbn; replace P := P.bel (bl_trans (by go_grown) hbn); replace Pc := P.c4; clear hbn) | (go_at_call 22; refine (PricesOk_s _ _ _ _ _).mono ?_; rintro e wn ⟨rfl, hbn⟩; replace hB := bl_trans (bl_trans hB (by go_grown)) hbn; replace P := P.bel (bl_trans (by go_grown) hbn); replace Pc := P.c4; clear hbn) | (go_at_call 24; refine (PricesOk_i _ _ _ _ _ gx gy gz).mono ?_; rintro e wn ⟨rfl, hbn⟩; replace hB := bl_trans (bl_trans hB (by go_grown)) hbn; replace P := P.bel (bl_trans (by go_grown) hbn); replace Pc := P.c4; clear hbn))
  go_ret
  exact ⟨rfl, (by first | (go_grown; done) | exact bl_trans hB (by go_grown))⟩
end Go.Proofs.Ytdbnhbffdndkgaa

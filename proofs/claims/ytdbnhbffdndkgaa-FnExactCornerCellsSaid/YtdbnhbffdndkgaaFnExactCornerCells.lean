/-
  The walk of the law FnExactCornerCells: it returns true for every corner tile; no condition.
-/
import Derived.Test.YtdbnhbffdndkgaaCorner
import Derived.Test.YtdbnhbffdndkgaaCells
namespace Go.Proofs.Ytdbnhbffdndkgaa
open Go.ChangeShapes Go.WideShapes Go.ChangeAt Go.RowKit Go.Deep

theorem cornerCells_len (x y z : Int) : (cornerCells x y z).length ≤ 4 := by
  unfold cornerCells
  split
  · exact ccUpto_len x y z 4
  · simp
set_option maxHeartbeats 1000000 in
theorem walk_FnExactCornerCells (x y z : Int) (w : World) (_ : I64 x) (_ : I64 y) (_ : I64 z) :
    Calls Try.prog 12 #[.agg #[.int .i64 x, .int .i64 y, .int .i64 z]] w fun e w' => e = .returned (.bool true) ∧ Below w.heap.size w w' := by
  have hlen := cornerCells_len x y z
  have hlen' : (cornerCells x y z).length ≤ 1048576 := by omega
  go_enter Try.func12, Try.ntmps12
  go_wp2_with fail
  (have P := Blk.new w 24 [.int .i64 x, .int .i64 y, .int .i64 z]; have Pc := P.c3)
  (refine (toCorner_any _ _ _ _).mono ?_; rintro e w1 ⟨rfl, hb1⟩; replace P := P.bel (bl_trans (by go_grown) hb1); replace Pc := P.c3)
  go_wp2_with fail
  (refine (CornerCells_s _ _ _ _).mono ?_; rintro e w2 ⟨v, rfl, ⟨⟨A1, c1, rfl⟩, o1, p1⟩, hb2⟩; replace P := P.bel (bl_trans (by go_grown) hb2); replace Pc := P.c3)
  have R := Lib.hid (OwC.rd ⟨⟨A1, c1, rfl⟩, o1, p1⟩)
  clear o1 p1
  go_wp2_with fail
  (refine (toCorner_any _ _ _ _).mono ?_; rintro e w3 ⟨rfl, hb3⟩; replace P := P.bel (bl_trans (by go_grown) hb3); replace Pc := P.c3)
  replace R := Lib.hid (R.out.below hb3)
  have hP3 := P.lt
  go_wp2_with fail
  (refine (CornerCells_i _ _ _ _).mono ?_; rintro e w4 ⟨v, rfl, ⟨⟨A2, c2, rfl⟩, o2, p2⟩, hb4⟩; replace P := P.bel (bl_trans (by go_grown) hb4); replace Pc := P.c3)
  have G := Lib.hid (show OwC w3.heap.size w4 _ _ from ⟨⟨A2, c2, rfl⟩, o2, p2⟩)
  clear o2 p2
  go_wp2_with fail
  (refine (eqCellS_any A2 A1 c2 c1 _ _ _ hlen' G.out.rd (R.out.below hb4)).mono ?_; rintro e w5 ⟨rfl, hb5⟩; replace P := P.bel (bl_trans (by go_grown) hb5); replace Pc := P.c3)
  replace G := Lib.hid (G.out.bel hb5)
  go_wp2_with fail
  refine (markCellS_any w3.heap.size A2 _ c2 _ 1 _ hlen' (by omega) (by omega) G.out).mono ?_
  rintro e w6 ⟨rfl, G6, hb6⟩
  replace G := Lib.hid G6
  clear G6
  have h36 := (bl_trans hb4 hb5).trans hb6
  replace P := P.below hb6 hP3
  replace Pc := P.c3
  go_wp2_with (go_at_call 52; refine (heldCellS_any A2 c2 _ 1 _ hlen' (by omega) (by omega) G.out.rd).mono ?_; rintro e wn ⟨rfl, rfl⟩)
  (refine (toCorner_any _ _ _ _).mono ?_; rintro e w7 ⟨rfl, hb7⟩; replace P := P.bel (bl_trans (by go_grown) hb7); replace Pc := P.c3)
  replace G := Lib.hid (G.out.bel hb7)
  go_wp2_with fail
  (refine (CornerCells_i _ _ _ _).mono ?_; rintro e w8 ⟨v, rfl, ⟨⟨A3, c3, rfl⟩, o3, p3⟩, hb8⟩; replace P := P.bel (bl_trans (by go_grown) hb8); replace Pc := P.c3)
  replace G := Lib.hid (G.out.bel hb8)
  have h38 := bl_trans (bl_trans h36 hb7) hb8
  have R3 := Lib.hid (OwC.rd ⟨⟨A3, c3, rfl⟩, o3, p3⟩)
  clear o3 p3
  go_wp2_with fail
  (refine (eqCellS_any A3 A1 c3 c1 _ _ _ hlen' R3.out (R.out.below h38)).mono ?_; rintro e w9 ⟨rfl, hb9⟩)
  replace G := Lib.hid (G.out.bel hb9)
  go_wp2_with (go_at_call 52; refine (heldCellS_any A2 c2 _ 1 _ hlen' (by omega) (by omega) G.out.rd).mono ?_; rintro e wn ⟨rfl, rfl⟩)
  go_ret
  have h03 : Below w.heap.size w w3 := bl_trans (bl_trans (bl_trans (by go_grown) hb1) hb2) hb3
  exact ⟨rfl, bl_trans (h03.trans (h38.mono h03.size)) hb9⟩
end Go.Proofs.Ytdbnhbffdndkgaa

/-
  The walk of the law FnExactTileMissing: it returns true for all arguments; no condition.
-/
import Derived.Test.YtokclhiecaffgaaMiss
import Derived.Test.YtokclhiecaffgaaConv
import Derived.Test.YtokclhiecaffgaaIn
namespace Go.Proofs.Ytokclhiecaffgaa
open Go.ChangeShapes Go.WideShapes Go.ChangeAt Go.RowKit Go.Deep
set_option linter.unusedVariables false

set_option maxRecDepth 100000 in
set_option maxHeartbeats 4000000 in
theorem walk_FnExactTileMissing (x0 : Int) (x1 y1 : Int) (w : World) (g0a : I64 x0) (g1a : I64 x1) (g1b : I64 y1) :
    Calls Try.prog 6 #[.int .i64 x0, .agg #[.int .i64 x1, .int .i64 y1]] w fun e w' => e = .returned (.bool true) ∧ Below w.heap.size w w' := by
  have hB := Below.refl w.heap.size w
  have P1 := Blk.new w 36 [.int .i64 x1, .int .i64 y1]
  have P1c := P1.c2
  go_enter Try.func6, Try.ntmps6
  go_wp2_with fail
  have hlen : (tmL x0 x1 y1).length ≤ 1048576 := by have := tmL_len x0 x1 y1; omega
  (refine (toCell_any x1 y1 _).mono ?_; rintro e w1 ⟨rfl, hb1⟩; have s1 := (bl_trans (w := w) (by go_grown) hb1).size; replace hB := bl_trans (bl_trans hB (by go_grown)) hb1; replace P1 := P1.bel (bl_trans (by go_grown) hb1); replace P1c := P1.c2; have pP1 := P1.lt; clear hb1)
  go_wp2_with fail
  (refine (TileMissing_s _ _ _ _).mono ?_; rintro e w2 ⟨v2, rfl, o2, hb2⟩; have s2 := (bl_trans (w := w1) (by go_grown) hb2).size; replace hB := bl_trans (bl_trans hB (by go_grown)) hb2; obtain ⟨⟨B2, d2, rfl⟩, _⟩ := id o2; have F2 := Lib.hid (o2.in_ (bl_start (w := w1) (by go_grown))); clear o2; replace P1 := P1.bel (bl_trans (by go_grown) hb2); replace P1c := P1.c2; clear hb2)
  go_wp2_with fail
  (refine (toCell_any x1 y1 _).mono ?_; rintro e w3 ⟨rfl, hb3⟩; have s3 := (bl_trans (w := w2) (by go_grown) hb3).size; replace hB := bl_trans (bl_trans hB (by go_grown)) hb3; replace P1 := P1.bel (bl_trans (by go_grown) hb3); replace P1c := P1.c2; replace F2 := Lib.hid (F2.out.bel (bl_trans (by go_grown) hb3)); clear hb3)
  go_wp2_with fail
  (refine (TileMissing_i _ _ _ _).mono ?_; rintro e w4 ⟨v4, rfl, o4, hb4⟩; have s4 := (bl_trans (w := w3) (by go_grown) hb4).size; replace hB := bl_trans (bl_trans hB (by go_grown)) hb4; obtain ⟨⟨B4, d4, rfl⟩, _⟩ := id o4; have F4 := Lib.hid (o4.in_ (bl_start (w := w3) (by go_grown))); clear o4; replace P1 := P1.bel (bl_trans (by go_grown) hb4); replace P1c := P1.c2; replace F2 := Lib.hid (F2.out.bel (bl_trans (by go_grown) hb4)); clear hb4)
  go_wp2_with fail
  (refine (eqCornerS_any _ _ _ _ _ _ _ hlen (F4.out.rd.below (by go_grown)) (F2.out.rd.below (by go_grown))).mono ?_; rintro e w5 ⟨rfl, hb5⟩; have s5 := (bl_trans (w := w4) (by go_grown) hb5).size; replace hB := bl_trans (bl_trans hB (by go_grown)) hb5; replace P1 := P1.bel (bl_trans (by go_grown) hb5); replace P1c := P1.c2; replace F2 := Lib.hid (F2.out.bel (bl_trans (by go_grown) hb5)); replace F4 := Lib.hid (F4.out.bel (bl_trans (by go_grown) hb5)); clear hb5)
  go_wp2_with fail
  (refine (markCornerS_in _ _ _ _ _ _ _ _ hlen (by omega) (by omega) (F4.out.bel (by go_grown))).mono ?_; rintro e w6 ⟨rfl, m6, hg6⟩; have s6 := (grown_bel (w := w5) (by go_grown) hg6).size; replace hB := bl_grown' (bl_trans hB (by go_grown)) hg6 (bl_trans hB (by go_grown)).size (fun k hk => by have := F4.out.rng k hk; omega); replace P1 := (P1.bel (by go_grown)).far' hg6 (fun k hk => by have := F4.out.rng k hk; omega); replace P1c := P1.c2; replace F2 := Lib.hid ((F2.out.bel (by go_grown)).far hg6 (fun k hk => by have := F4.out.rng k hk; omega)); replace F4 := Lib.hid m6; clear m6 hg6)
  go_wp2_with fail
  (refine (heldCornerS_in _ _ _ _ _ hlen (by omega) (by omega) (F4.out.rd.below (by go_grown))).mono ?_; rintro e wh7 ⟨rfl, rfl⟩)
  go_wp2_with fail
  (refine (toCell_any x1 y1 _).mono ?_; rintro e w7 ⟨rfl, hb7⟩; have s7 := (bl_trans (w := w6) (by go_grown) hb7).size; replace hB := bl_trans (bl_trans hB (by go_grown)) hb7; replace P1 := P1.bel (bl_trans (by go_grown) hb7); replace P1c := P1.c2; replace F2 := Lib.hid (F2.out.bel (bl_trans (by go_grown) hb7)); replace F4 := Lib.hid (F4.out.bel (bl_trans (by go_grown) hb7)); clear hb7)
  go_wp2_with fail
  (refine (TileMissing_i _ _ _ _).mono ?_; rintro e w8 ⟨v8, rfl, o8, hb8⟩; have s8 := (bl_trans (w := w7) (by go_grown) hb8).size; replace hB := bl_trans (bl_trans hB (by go_grown)) hb8; obtain ⟨⟨B8, d8, rfl⟩, _⟩ := id o8; have F8 := Lib.hid (o8.in_ (bl_start (w := w7) (by go_grown))); clear o8; replace P1 := P1.bel (bl_trans (by go_grown) hb8); replace P1c := P1.c2; replace F2 := Lib.hid (F2.out.bel (bl_trans (by go_grown) hb8)); replace F4 := Lib.hid (F4.out.bel (bl_trans (by go_grown) hb8)); clear hb8)
  go_wp2_with fail
  (refine (eqCornerS_any _ _ _ _ _ _ _ hlen (F8.out.rd.below (by go_grown)) (F2.out.rd.below (by go_grown))).mono ?_; rintro e w9 ⟨rfl, hb9⟩; have s9 := (bl_trans (w := w8) (by go_grown) hb9).size; replace hB := bl_trans (bl_trans hB (by go_grown)) hb9; replace P1 := P1.bel (bl_trans (by go_grown) hb9); replace P1c := P1.c2; replace F2 := Lib.hid (F2.out.bel (bl_trans (by go_grown) hb9)); replace F4 := Lib.hid (F4.out.bel (bl_trans (by go_grown) hb9)); replace F8 := Lib.hid (F8.out.bel (bl_trans (by go_grown) hb9)); clear hb9)
  go_wp2_with fail
  (refine (heldCornerS_in _ _ _ _ _ hlen (by omega) (by omega) (F4.out.rd.below (by go_grown))).mono ?_; rintro e wh10 ⟨rfl, rfl⟩)
  go_wp2_with fail
  go_ret
  exact ⟨rfl, (by first | (go_grown; done) | exact bl_trans hB (by go_grown))⟩
end Go.Proofs.Ytokclhiecaffgaa

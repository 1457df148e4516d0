/-
  The walk of the law FnExactListAlternating: it returns true for all arguments; no condition.
-/
import Derived.Test.YtoehmocamaamcaaL25I
import Derived.Test.YtoehmocamaamcaaConv
namespace Go.Proofs.Ytoehmocamaamcaa
open Go.ChangeShapes Go.WideShapes Go.ChangeAt Go.RowKit Go.Deep
set_option linter.unusedVariables false

set_option maxRecDepth 100000 in
set_option maxHeartbeats 4000000 in
theorem walk_FnExactListAlternating (x0 : Int) (w : World) (g0a : I64 x0) :
    Calls Try.prog 4 #[.int .i64 x0] w fun e w' => e = .returned (.bool true) ∧ Below w.heap.size w w' := by
  have hB := Below.refl w.heap.size w
  go_enter Try.func4, Try.ntmps4
  have hlen : (altL x0).length ≤ 1048576 := (altL_small x0).1
  have hlenm := Lib.hid (show small3 (altL x0) from (altL_small x0).2.1)
  have htot : tot3 (altL x0) ≤ 1048576 := (altL_small x0).2.2
  go_wp2_with fail
  (refine (ListAlternating_s _ _).mono ?_; rintro e w1 ⟨v1, rfl, o1, hb1⟩; have s1 := (bl_trans (w := w) (by go_grown) hb1).size; replace hB := bl_trans (bl_trans hB (by go_grown)) hb1; obtain ⟨⟨B1, d1, rfl⟩, _⟩ := id o1; have F1 := Lib.hid o1.rd; have hW := Below.refl w1.heap.size w1; clear o1; clear hb1)
  go_wp2_with fail
  (refine (ListAlternating_i _ _).mono ?_; rintro e w2 ⟨v2, rfl, o2, hb2⟩; have s2 := (bl_trans (w := w1) (by go_grown) hb2).size; replace hB := bl_trans (bl_trans hB (by go_grown)) hb2; obtain ⟨⟨B2, d2, rfl⟩, _⟩ := id o2; have F2 := Lib.hid (o2.wide (bl_start (w := w1) (by go_grown)) (Nat.le_refl _)); clear o2; replace hW := bl_trans (bl_trans hW (by go_grown)) hb2; clear hb2)
  go_wp2_with fail
  (refine (eqIntSSS_any _ _ _ _ _ _ _ _ _ rfl rfl hlen hlenm.out (F2.out.rd.below (by go_grown)) (F1.out.below (bl_trans hW (by go_grown)))).mono ?_; rintro e w3 ⟨rfl, hb3⟩; have s3 := (bl_trans (w := w2) (by go_grown) hb3).size; replace hB := bl_trans (bl_trans hB (by go_grown)) hb3; replace F2 := Lib.hid (F2.out.bel (bl_trans (by go_grown) hb3)); replace hW := bl_trans (bl_trans hW (by go_grown)) hb3; clear hb3)
  go_wp2_with fail
  (refine (markIntSSS_in _ _ _ _ _ _ _ _ hlen (by omega) (by omega) hlenm.out (F2.out.bel (by go_grown))).mono ?_; rintro e w4 ⟨rfl, m4, hb4⟩; have s4 := (bl_trans (w := w3) (by go_grown) (Below.refl _ _)).size; have z4 := hb4.size; have s4 : w3.heap.size ≤ w4.heap.size := (by have := (bl_start (w := w3) (by go_grown)); omega); replace hB := hb4.below (bl_trans hB (by go_grown)) (by omega) (by omega); replace hW := hb4.below (bl_trans hW (by go_grown)) (by omega) (by omega); replace F2 := Lib.hid m4; clear m4 hb4)
  go_wp2_with fail
  (refine (heldIntSSS_in _ _ _ _ _ _ rfl hlen (by omega) (by omega) hlenm.out (F2.out.rd.below (by go_grown))).mono ?_; rintro e wh ⟨rfl, rfl⟩)
  go_wp2_with fail
  (refine (ListAlternating_i _ _).mono ?_; rintro e w5 ⟨v5, rfl, o5, hb5⟩; have s5 := (bl_trans (w := w4) (by go_grown) hb5).size; replace hB := bl_trans (bl_trans hB (by go_grown)) hb5; obtain ⟨⟨B5, d5, rfl⟩, _⟩ := id o5; have F5 := Lib.hid (o5.wide (bl_start (w := w4) (by go_grown)) (Nat.le_refl _)); clear o5; replace F2 := Lib.hid (F2.out.bel (bl_trans (by go_grown) hb5)); replace hW := bl_trans (bl_trans hW (by go_grown)) hb5; clear hb5)
  go_wp2_with fail
  (refine (eqIntSSS_any _ _ _ _ _ _ _ _ _ rfl rfl hlen hlenm.out (F5.out.rd.below (by go_grown)) (F1.out.below (bl_trans hW (by go_grown)))).mono ?_; rintro e w6 ⟨rfl, hb6⟩; have s6 := (bl_trans (w := w5) (by go_grown) hb6).size; replace hB := bl_trans (bl_trans hB (by go_grown)) hb6; replace F2 := Lib.hid (F2.out.bel (bl_trans (by go_grown) hb6)); replace F5 := Lib.hid (F5.out.bel (bl_trans (by go_grown) hb6)); replace hW := bl_trans (bl_trans hW (by go_grown)) hb6; clear hb6)
  go_wp2_with fail
  (refine (heldIntSSS_in _ _ _ _ _ _ rfl hlen (by omega) (by omega) hlenm.out (F2.out.rd.below (by go_grown))).mono ?_; rintro e wh ⟨rfl, rfl⟩)
  go_wp2_with fail
  go_ret
  exact ⟨rfl, (by first | (go_grown; done) | exact bl_trans hB (by go_grown))⟩
end Go.Proofs.Ytoehmocamaamcaa

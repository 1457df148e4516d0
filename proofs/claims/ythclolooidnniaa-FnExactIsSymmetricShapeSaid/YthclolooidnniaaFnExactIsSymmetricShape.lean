/-
  The walk of the law FnExactIsSymmetricShape: it returns true for all arguments; no condition.
-/
import Derived.Test.YthclolooidnniaaNeut
import Derived.Test.YthclolooidnniaaCells
import Derived.Test.YthclolooidnniaaIn
namespace Go.Proofs.Ythclolooidnniaa
open Go.ChangeShapes Go.WideShapes Go.ChangeAt Go.RowKit Go.Deep
set_option linter.unusedVariables false

set_option maxRecDepth 100000 in
set_option maxHeartbeats 4000000 in
theorem walk_FnExactIsSymmetricShape (A0 : Option Addr) (c0 : Nat) (l0 : List (Int × Int)) (w : World) (hr0 : RdC w A0 l0) (hl0 : l0.length ≤ maxLen) :
    Calls Try.prog 10 #[.slice A0 l0.length c0] w fun e w' => e = .returned (.bool true) ∧ Below w.heap.size w w' := by
  have hB := Below.refl w.heap.size w
  have hr0' := Lib.hid hr0
  clear hr0
  have q0 := szSub_le (1048576) l0.length (by omega) (by omega)
  by_cases h0 : szSub 1048576 l0.length < 0
  · go_enter Try.func10, Try.ntmps10
    go_wp2_with (go_at_call 17; refine (szCellS_any _ _ _ _ _ (by omega) (by omega) (by assumption)).mono ?_; rintro e wn ⟨rfl, rfl⟩)
    go_ret
    exact ⟨rfl, (by first | (go_grown; done) | exact bl_trans hB (by go_grown))⟩
  · have f0 := szSub_fits (left := 1048576) (n := l0.length) (by omega)
    have b0 : l0.length ≤ 1048576 := by omega
    clear f0
    go_enter Try.func10, Try.ntmps10
    go_wp2_with (go_at_call 17; refine (szCellS_any _ _ _ _ _ (by omega) (by omega) (by assumption)).mono ?_; rintro e wn ⟨rfl, rfl⟩)
    (refine (toCellS_any A0 c0 l0 _ b0 (hr0'.out.below (bl_trans hB (by go_grown)))).mono ?_; rintro e w1 ⟨v1, rfl, o1, hb1⟩; have s1 := (bl_trans (w := w) (by go_grown) hb1).size; replace hB := bl_trans (bl_trans hB (by go_grown)) hb1; obtain ⟨⟨B1, d1, rfl⟩, _⟩ := id o1; have F1 := Lib.hid (o1.in_ (bl_start (w := w) (by go_grown))); clear o1; clear hb1)
    go_wp2_with fail
    (refine (IsSymmetricShape_s _ _ _ _ _ rfl b0 (F1.out.rd.below (by go_grown))).mono ?_; rintro e w2 ⟨rfl, hb2⟩; have s2 := (bl_trans (w := w1) (by go_grown) hb2).size; replace hB := bl_trans (bl_trans hB (by go_grown)) hb2; replace F1 := Lib.hid (F1.out.bel (bl_trans (by go_grown) hb2)); clear hb2)
    clear F1
    go_wp2_with fail
    (refine (toCellS_any A0 c0 l0 _ b0 (hr0'.out.below (bl_trans hB (by go_grown)))).mono ?_; rintro e w3 ⟨v3, rfl, o3, hb3⟩; have s3 := (bl_trans (w := w2) (by go_grown) hb3).size; replace hB := bl_trans (bl_trans hB (by go_grown)) hb3; obtain ⟨⟨B3, d3, rfl⟩, _⟩ := id o3; have F3 := Lib.hid (o3.in_ (bl_start (w := w2) (by go_grown))); clear o3; clear hb3)
    go_wp2_with fail
    (refine (IsSymmetricShape_i _ _ _ _ _ rfl b0 (F3.out.rd.below (by go_grown))).mono ?_; rintro e w4 ⟨rfl, hb4⟩; have s4 := (bl_trans (w := w3) (by go_grown) hb4).size; replace hB := bl_trans (bl_trans hB (by go_grown)) hb4; replace F3 := Lib.hid (F3.out.bel (bl_trans (by go_grown) hb4)); clear hb4)
    go_wp2_with fail
    (refine (toCellS_any A0 c0 l0 _ b0 (hr0'.out.below (bl_trans hB (by go_grown)))).mono ?_; rintro e w5 ⟨v5, rfl, o5, hb5⟩; have s5 := (bl_trans (w := w4) (by go_grown) hb5).size; replace hB := bl_trans (bl_trans hB (by go_grown)) hb5; obtain ⟨⟨B5, d5, rfl⟩, _⟩ := id o5; have F5 := Lib.hid (o5.in_ (bl_start (w := w4) (by go_grown))); clear o5; replace F3 := Lib.hid (F3.out.bel (bl_trans (by go_grown) hb5)); clear hb5)
    go_wp2_with fail
    (refine (eqCellS_any _ _ _ _ _ _ _ b0 (F3.out.rd.below (by go_grown)) (F5.out.rd.below (by go_grown))).mono ?_; rintro e w6 ⟨rfl, hb6⟩; have s6 := (bl_trans (w := w5) (by go_grown) hb6).size; replace hB := bl_trans (bl_trans hB (by go_grown)) hb6; replace F3 := Lib.hid (F3.out.bel (bl_trans (by go_grown) hb6)); replace F5 := Lib.hid (F5.out.bel (bl_trans (by go_grown) hb6)); clear hb6)
    clear F5
    go_wp2_with fail
    go_ret
    exact ⟨rfl, (by first | (go_grown; done) | exact bl_trans hB (by go_grown))⟩
end Go.Proofs.Ythclolooidnniaa

/-
  The walk of the law FnExactAreProper: it returns true for all arguments; no condition.
-/
import Derived.Test.YtmhgifdnnlijcaaColors
import Derived.Test.YtmhgifdnnlijcaaIn
namespace Go.Proofs.Ytmhgifdnnlijcaa
open Go.ChangeShapes Go.WideShapes Go.ChangeAt Go.RowKit Go.Deep
set_option linter.unusedVariables false

set_option maxRecDepth 100000 in
set_option maxHeartbeats 4000000 in
theorem walk_FnExactAreProper (A0 : Option Addr) (c0 : Nat) (l0 : List (Int × Int × Bool)) (A1 : Option Addr) (c1 : Nat) (l1 : List (Int)) (w : World) (hr0 : RdD w A0 l0) (hl0 : l0.length ≤ maxLen) (hr1 : RdI w A1 l1) (hl1 : l1.length ≤ maxLen) :
    Calls Try.prog 5 #[.slice A0 l0.length c0, .slice A1 l1.length c1] w fun e w' => e = .returned (.bool true) ∧ Below w.heap.size w w' := by
  have hB := Below.refl w.heap.size w
  have hr0' := Lib.hid hr0
  have hr1' := Lib.hid hr1
  clear hr0 hr1
  by_cases b1 : ¬ l1.length ≤ 1048576
  · unfold maxLen at hl1
    go_enter Try.func5, Try.ntmps5
    go_wp2
    go_ret
    exact ⟨rfl, (by first | (go_grown; done) | exact bl_trans hB (by go_grown))⟩
  · replace b1 : l1.length ≤ 1048576 := by omega
    have q0 := szSub_le (1048576) l0.length (by omega) (by omega)
    by_cases h0 : szSub 1048576 l0.length < 0
    · go_enter Try.func5, Try.ntmps5
      go_wp2_with (go_at_call 15; refine (szDominoS_any A0 c0 l0.length _ _ (by omega) (by omega) (by assumption)).mono ?_; rintro e wn ⟨rfl, rfl⟩)
      go_ret
      exact ⟨rfl, (by first | (go_grown; done) | exact bl_trans hB (by go_grown))⟩
    · have f0 := szSub_fits (left := 1048576) (n := l0.length) (by omega)
      have b0 : l0.length ≤ 1048576 := by omega
      clear f0
      go_enter Try.func5, Try.ntmps5
      go_wp2_with (go_at_call 15; refine (szDominoS_any A0 c0 l0.length _ _ (by omega) (by omega) (by assumption)).mono ?_; rintro e wn ⟨rfl, rfl⟩)
      (refine (toDominoS_any A0 c0 l0 _ b0 (hr0'.out.below (bl_trans hB (by go_grown)))).mono ?_; rintro e w1 ⟨v1, rfl, o1, hb1⟩; have s1 := (bl_trans (w := w) (by go_grown) hb1).size; replace hB := bl_trans (bl_trans hB (by go_grown)) hb1; obtain ⟨⟨B1, d1, rfl⟩, _⟩ := id o1; have F1 := Lib.hid (o1.in_ (bl_start (w := w) (by go_grown))); clear o1; clear hb1)
      go_wp2_with fail
      (refine (toIntS_any A1 c1 l1 _ b1 (hr1'.out.below (bl_trans hB (by go_grown)))).mono ?_; rintro e w2 ⟨v2, rfl, o2, hb2⟩; have s2 := (bl_trans (w := w1) (by go_grown) hb2).size; replace hB := bl_trans (bl_trans hB (by go_grown)) hb2; obtain ⟨⟨B2, d2, rfl⟩, _⟩ := id o2; have F2 := Lib.hid (o2.in_ (bl_start (w := w1) (by go_grown))); clear o2; replace F1 := Lib.hid (F1.out.bel (bl_trans (by go_grown) hb2)); clear hb2)
      go_wp2_with fail
      (refine (AreProper_s _ _ _ _ _ _ _ b0 b1 (F1.out.rd.below (by go_grown)) (F2.out.rd.below (by go_grown))).mono ?_; rintro e w3 ⟨rfl, hb3⟩; have s3 := (bl_trans (w := w2) (by go_grown) hb3).size; replace hB := bl_trans (bl_trans hB (by go_grown)) hb3; replace F1 := Lib.hid (F1.out.bel (bl_trans (by go_grown) hb3)); replace F2 := Lib.hid (F2.out.bel (bl_trans (by go_grown) hb3)); clear hb3)
      clear F1
      clear F2
      go_wp2_with fail
      (refine (toDominoS_any A0 c0 l0 _ b0 (hr0'.out.below (bl_trans hB (by go_grown)))).mono ?_; rintro e w4 ⟨v4, rfl, o4, hb4⟩; have s4 := (bl_trans (w := w3) (by go_grown) hb4).size; replace hB := bl_trans (bl_trans hB (by go_grown)) hb4; obtain ⟨⟨B4, d4, rfl⟩, _⟩ := id o4; have F4 := Lib.hid (o4.in_ (bl_start (w := w3) (by go_grown))); clear o4; clear hb4)
      go_wp2_with fail
      (refine (toIntS_any A1 c1 l1 _ b1 (hr1'.out.below (bl_trans hB (by go_grown)))).mono ?_; rintro e w5 ⟨v5, rfl, o5, hb5⟩; have s5 := (bl_trans (w := w4) (by go_grown) hb5).size; replace hB := bl_trans (bl_trans hB (by go_grown)) hb5; obtain ⟨⟨B5, d5, rfl⟩, _⟩ := id o5; have F5 := Lib.hid (o5.in_ (bl_start (w := w4) (by go_grown))); clear o5; replace F4 := Lib.hid (F4.out.bel (bl_trans (by go_grown) hb5)); clear hb5)
      go_wp2_with fail
      (refine (AreProper_i _ _ _ _ _ _ _ b0 b1 (F4.out.rd.below (by go_grown)) F4.out.cap (F5.out.rd.below (by go_grown))).mono ?_; rintro e w6 ⟨rfl, hb6⟩; have s6 := (bl_trans (w := w5) (by go_grown) hb6).size; replace hB := bl_trans (bl_trans hB (by go_grown)) hb6; replace F4 := Lib.hid (F4.out.bel (bl_trans (by go_grown) hb6)); replace F5 := Lib.hid (F5.out.bel (bl_trans (by go_grown) hb6)); clear hb6)
      go_wp2_with fail
      (refine (toDominoS_any A0 c0 l0 _ b0 (hr0'.out.below (bl_trans hB (by go_grown)))).mono ?_; rintro e w7 ⟨v7, rfl, o7, hb7⟩; have s7 := (bl_trans (w := w6) (by go_grown) hb7).size; replace hB := bl_trans (bl_trans hB (by go_grown)) hb7; obtain ⟨⟨B7, d7, rfl⟩, _⟩ := id o7; have F7 := Lib.hid (o7.in_ (bl_start (w := w6) (by go_grown))); clear o7; replace F4 := Lib.hid (F4.out.bel (bl_trans (by go_grown) hb7)); replace F5 := Lib.hid (F5.out.bel (bl_trans (by go_grown) hb7)); clear hb7)
      go_wp2_with fail
      (refine (eqDominoS_any _ _ _ _ _ _ _ b0 (F4.out.rd.below (by go_grown)) (F7.out.rd.below (by go_grown))).mono ?_; rintro e w8 ⟨rfl, hb8⟩; have s8 := (bl_trans (w := w7) (by go_grown) hb8).size; replace hB := bl_trans (bl_trans hB (by go_grown)) hb8; replace F4 := Lib.hid (F4.out.bel (bl_trans (by go_grown) hb8)); replace F5 := Lib.hid (F5.out.bel (bl_trans (by go_grown) hb8)); replace F7 := Lib.hid (F7.out.bel (bl_trans (by go_grown) hb8)); clear hb8)
      clear F7
      go_wp2_with fail
      (refine (toIntS_any A1 c1 l1 _ b1 (hr1'.out.below (bl_trans hB (by go_grown)))).mono ?_; rintro e w9 ⟨v9, rfl, o9, hb9⟩; have s9 := (bl_trans (w := w8) (by go_grown) hb9).size; replace hB := bl_trans (bl_trans hB (by go_grown)) hb9; obtain ⟨⟨B9, d9, rfl⟩, _⟩ := id o9; have F9 := Lib.hid (o9.in_ (bl_start (w := w8) (by go_grown))); clear o9; replace F4 := Lib.hid (F4.out.bel (bl_trans (by go_grown) hb9)); replace F5 := Lib.hid (F5.out.bel (bl_trans (by go_grown) hb9)); clear hb9)
      go_wp2_with fail
      (refine (eqIntS_any _ _ _ _ _ _ _ b1 (F5.out.rd.below (by go_grown)) (F9.out.rd.below (by go_grown))).mono ?_; rintro e w10 ⟨rfl, hb10⟩; have s10 := (bl_trans (w := w9) (by go_grown) hb10).size; replace hB := bl_trans (bl_trans hB (by go_grown)) hb10; replace F4 := Lib.hid (F4.out.bel (bl_trans (by go_grown) hb10)); replace F5 := Lib.hid (F5.out.bel (bl_trans (by go_grown) hb10)); replace F9 := Lib.hid (F9.out.bel (bl_trans (by go_grown) hb10)); clear hb10)
      clear F9
      go_wp2_with fail
      go_ret
      exact ⟨rfl, (by first | (go_grown; done) | exact bl_trans hB (by go_grown))⟩
end Go.Proofs.Ytmhgifdnnlijcaa

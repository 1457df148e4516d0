/-
  The walk of the law FnExactWorstDomino: it returns true for all arguments; no condition.
-/
import Derived.Test.YtoehmocamaamcaaRepS
import Derived.Test.YtoehmocamaamcaaIn
namespace Go.Proofs.Ytoehmocamaamcaa
open Go.ChangeShapes Go.WideShapes Go.ChangeAt Go.RowKit Go.Deep
set_option linter.unusedVariables false

set_option maxRecDepth 100000 in
set_option maxHeartbeats 4000000 in
theorem walk_FnExactWorstDomino (A0 : Option Addr) (c0 : Nat) (l0 : List (Int)) (A1 : Option Addr) (c1 : Nat) (l1 : List (Int × Int × Bool)) (w : World) (hr0 : RdI w A0 l0) (hl0 : l0.length ≤ maxLen) (hr1 : RdD w A1 l1) (hl1 : l1.length ≤ maxLen) :
    Calls Try.prog 7 #[.agg #[.slice A0 l0.length c0], .slice A1 l1.length c1] w fun e w' => e = .returned (.bool true) ∧ Below w.heap.size w w' := by
  have hB := Below.refl w.heap.size w
  have P0 := Blk.new w 31 [.slice A0 l0.length c0]
  have P0c := P0.c1
  have hr0' := Lib.hid hr0
  have hr1' := Lib.hid hr1
  clear hr0 hr1
  have q0 := szSub_le (1048576) l0.length (by omega) (by omega)
  by_cases h0 : szSub 1048576 l0.length < 0
  · go_enter Try.func7, Try.ntmps7
    go_wp2_with (first | (go_at_call 16; refine (szRegion_any _ _ _ _ _ (by omega) (by omega) (by assumption)).mono ?_; rintro e wn ⟨rfl, hbn⟩; have hSz := bl_sz (bl_trans hB (by go_grown)) hbn; replace hB := bl_trans (bl_trans hB (by go_grown)) hbn; replace P0 := P0.bel (bl_trans (by go_grown) hbn); replace P0c := P0.c1; clear hbn) | (go_at_call 21; refine (szDominoS_any _ _ _ _ _ (by omega) (by omega) (by assumption)).mono ?_; rintro e wn ⟨rfl, rfl⟩))
    go_ret
    exact ⟨rfl, (by first | (go_grown; done) | exact bl_trans hB (by go_grown))⟩
  · have f0 := szSub_fits (left := 1048576) (n := l0.length) (by omega)
    have b0 : l0.length ≤ 1048576 := by omega
    clear f0
    have q1 := szSub_le (szSub 1048576 l0.length) l1.length (by omega) (by omega)
    by_cases h1 : szSub (szSub 1048576 l0.length) l1.length < 0
    · go_enter Try.func7, Try.ntmps7
      go_wp2_with (first | (go_at_call 16; refine (szRegion_any _ _ _ _ _ (by omega) (by omega) (by assumption)).mono ?_; rintro e wn ⟨rfl, hbn⟩; have hSz := bl_sz (bl_trans hB (by go_grown)) hbn; replace hB := bl_trans (bl_trans hB (by go_grown)) hbn; replace P0 := P0.bel (bl_trans (by go_grown) hbn); replace P0c := P0.c1; clear hbn) | (go_at_call 21; refine (szDominoS_any _ _ _ _ _ (by omega) (by omega) (by assumption)).mono ?_; rintro e wn ⟨rfl, rfl⟩))
      go_ret
      exact ⟨rfl, (by first | (go_grown; done) | exact bl_trans hB (by go_grown))⟩
    · have f1 := szSub_fits (left := szSub 1048576 l0.length) (n := l1.length) (by omega)
      have b1 : l1.length ≤ 1048576 := by omega
      clear f1
      go_enter Try.func7, Try.ntmps7
      go_wp2_with (first | (go_at_call 16; refine (szRegion_any _ _ _ _ _ (by omega) (by omega) (by assumption)).mono ?_; rintro e wn ⟨rfl, hbn⟩; have hSz := bl_sz (bl_trans hB (by go_grown)) hbn; replace hB := bl_trans (bl_trans hB (by go_grown)) hbn; replace P0 := P0.bel (bl_trans (by go_grown) hbn); replace P0c := P0.c1; clear hbn) | (go_at_call 21; refine (szDominoS_any _ _ _ _ _ (by omega) (by omega) (by assumption)).mono ?_; rintro e wn ⟨rfl, rfl⟩))
      have pP0 := P0.lt
      have s0 : w.heap.size ≤ wn.heap.size := hB.size
      (refine (toRegion_any A0 c0 l0 _ b0 (hr0'.out.below (bl_trans hB (by go_grown)))).mono ?_; rintro e w1 ⟨v1, rfl, o1, hb1⟩; have s1 := (bl_trans (w := wn) (by go_grown) hb1).size; replace hB := bl_trans (bl_trans hB (by go_grown)) hb1; obtain ⟨⟨B1, d1, rfl⟩, _⟩ := id o1; have F1 := Lib.hid (o1.in_ (bl_start (w := wn) (by go_grown))); clear o1; replace P0 := P0.bel (bl_trans (by go_grown) hb1); replace P0c := P0.c1; have pP0 := P0.lt; clear hb1)
      go_wp2_with fail
      (refine (toDominoS_any A1 c1 l1 _ b1 (hr1'.out.below (bl_trans hB (by go_grown)))).mono ?_; rintro e w2 ⟨v2, rfl, o2, hb2⟩; have s2 := (bl_trans (w := w1) (by go_grown) hb2).size; replace hB := bl_trans (bl_trans hB (by go_grown)) hb2; obtain ⟨⟨B2, d2, rfl⟩, _⟩ := id o2; have F2 := Lib.hid (o2.in_ (bl_start (w := w1) (by go_grown))); clear o2; replace P0 := P0.bel (bl_trans (by go_grown) hb2); replace P0c := P0.c1; replace F1 := Lib.hid (F1.out.bel (bl_trans (by go_grown) hb2)); clear hb2)
      go_wp2_with fail
      (refine (WorstDomino_s _ _ _ _ _ _ _ _ b0 rfl b1 (F1.out.rd.below (by go_grown)) (F2.out.rd.below (by go_grown))).mono ?_; rintro e w3 ⟨rfl, hb3⟩; have s3 := (bl_trans (w := w2) (by go_grown) hb3).size; replace hB := bl_trans (bl_trans hB (by go_grown)) hb3; replace P0 := P0.bel (bl_trans (by go_grown) hb3); replace P0c := P0.c1; replace F1 := Lib.hid (F1.out.bel (bl_trans (by go_grown) hb3)); replace F2 := Lib.hid (F2.out.bel (bl_trans (by go_grown) hb3)); clear hb3)
      clear F1
      clear F2
      go_wp2_with fail
      (refine (toRegion_any A0 c0 l0 _ b0 (hr0'.out.below (bl_trans hB (by go_grown)))).mono ?_; rintro e w4 ⟨v4, rfl, o4, hb4⟩; have s4 := (bl_trans (w := w3) (by go_grown) hb4).size; replace hB := bl_trans (bl_trans hB (by go_grown)) hb4; obtain ⟨⟨B4, d4, rfl⟩, _⟩ := id o4; have F4 := Lib.hid (o4.in_ (bl_start (w := w3) (by go_grown))); clear o4; replace P0 := P0.bel (bl_trans (by go_grown) hb4); replace P0c := P0.c1; clear hb4)
      have X0 := Blk.new w4 34 [.slice B4 l0.length d4]
      have X0c := X0.c1
      replace P0 := P0.alloc (.cells #[.slice B4 l0.length d4] 34); replace P0c := P0.c1
      go_wp2_with fail
      (refine (toDominoS_any A1 c1 l1 _ b1 (hr1'.out.below (bl_trans hB (by go_grown)))).mono ?_; rintro e w5 ⟨v5, rfl, o5, hb5⟩; have s5 := (bl_trans (w := w4) (by go_grown) hb5).size; replace hB := bl_trans (bl_trans hB (by go_grown)) hb5; obtain ⟨⟨B5, d5, rfl⟩, _⟩ := id o5; have F5 := Lib.hid (o5.in_ (lo' := w4.heap.size + 1) (by simp)); clear o5; replace P0 := P0.bel (bl_trans (by go_grown) hb5); replace P0c := P0.c1; replace X0 := X0.bel (bl_trans (by go_grown) hb5); replace X0c := X0.c1; replace F4 := Lib.hid (F4.out.bel (bl_trans (by go_grown) hb5)); clear hb5)
      go_wp2_with fail
      (refine (WorstDomino_i _ _ _ _ _ _ _ _ b0 rfl b1 (F4.out.rd.below (by go_grown)) (F5.out.rd.below (by go_grown))).mono ?_; rintro e w6 ⟨rfl, hb6⟩; have s6 := (bl_trans (w := w5) (by go_grown) hb6).size; replace hB := bl_trans (bl_trans hB (by go_grown)) hb6; replace P0 := P0.bel (bl_trans (by go_grown) hb6); replace P0c := P0.c1; replace X0 := X0.bel (bl_trans (by go_grown) hb6); replace X0c := X0.c1; replace F4 := Lib.hid (F4.out.bel (bl_trans (by go_grown) hb6)); replace F5 := Lib.hid (F5.out.bel (bl_trans (by go_grown) hb6)); clear hb6)
      go_wp2_with fail
      have hR := Below.refl w6.heap.size w6
      go_region_held3 (fun w' => (w'.cell? ⟨w.heap.size, 0, none⟩ = some (.slice A0 l0.length c0)) ∧ (w'.cell? ⟨w4.heap.size, 0, none⟩ = some (.slice B4 l0.length d4))) (go_keep)
        (first | (go_at_call 18; refine (toRegion_any A0 c0 l0 _ b0 (hr0'.out.below (bl_trans hB (by go_grown)))).mono ?_; rintro e w7 ⟨v7, rfl, o7, hb7⟩; skip; replace hB := bl_trans (bl_trans hB (by go_grown)) hb7; obtain ⟨⟨B7, d7, rfl⟩, _⟩ := id o7; have F7 := Lib.hid (o7.in_ (bl_size2 hR (by go_grown))); clear o7; replace P0 := P0.bel (bl_trans (by go_grown) hb7); replace P0c := P0.c1; replace X0 := X0.bel (bl_trans (by go_grown) hb7); replace X0c := X0.c1; replace F4 := Lib.hid (F4.out.bel (bl_trans (by go_grown) hb7)); replace F5 := Lib.hid (F5.out.bel (bl_trans (by go_grown) hb7)); replace hR := bl_trans (bl_trans hR (by go_grown)) hb7; clear hb7) | (go_at_call 20; refine (eqRegion_any _ _ _ _ _ _ _ b0 (F4.out.rd.below (by go_grown)) (F7.out.rd.below (by go_grown))).mono ?_; rintro e w8 ⟨rfl, hb8⟩; skip; replace hB := bl_trans (bl_trans hB (by go_grown)) hb8; replace P0 := P0.bel (bl_trans (by go_grown) hb8); replace P0c := P0.c1; replace X0 := X0.bel (bl_trans (by go_grown) hb8); replace X0c := X0.c1; replace F4 := Lib.hid (F4.out.bel (bl_trans (by go_grown) hb8)); replace F5 := Lib.hid (F5.out.bel (bl_trans (by go_grown) hb8)); try replace F7 := Lib.hid (F7.out.bel (bl_trans (by go_grown) hb8)); replace hR := bl_trans (bl_trans hR (by go_grown)) hb8; clear hb8))
      clear F7
      have s8 := hR.size
      clear hR
      go_wp2_with fail
      (refine (toDominoS_any A1 c1 l1 _ b1 (hr1'.out.below (bl_trans hB (by go_grown)))).mono ?_; rintro e w9 ⟨v9, rfl, o9, hb9⟩; have s9 := (bl_trans (w := w8) (by go_grown) hb9).size; replace hB := bl_trans (bl_trans hB (by go_grown)) hb9; obtain ⟨⟨B9, d9, rfl⟩, _⟩ := id o9; have F9 := Lib.hid (o9.in_ (bl_start (w := w8) (by go_grown))); clear o9; replace P0 := P0.bel (bl_trans (by go_grown) hb9); replace P0c := P0.c1; replace X0 := X0.bel (bl_trans (by go_grown) hb9); replace X0c := X0.c1; replace F4 := Lib.hid (F4.out.bel (bl_trans (by go_grown) hb9)); replace F5 := Lib.hid (F5.out.bel (bl_trans (by go_grown) hb9)); clear hb9)
      go_wp2_with fail
      (refine (eqDominoS_any _ _ _ _ _ _ _ b1 (F5.out.rd.below (by go_grown)) (F9.out.rd.below (by go_grown))).mono ?_; rintro e w10 ⟨rfl, hb10⟩; have s10 := (bl_trans (w := w9) (by go_grown) hb10).size; replace hB := bl_trans (bl_trans hB (by go_grown)) hb10; replace P0 := P0.bel (bl_trans (by go_grown) hb10); replace P0c := P0.c1; replace X0 := X0.bel (bl_trans (by go_grown) hb10); replace X0c := X0.c1; replace F4 := Lib.hid (F4.out.bel (bl_trans (by go_grown) hb10)); replace F5 := Lib.hid (F5.out.bel (bl_trans (by go_grown) hb10)); replace F9 := Lib.hid (F9.out.bel (bl_trans (by go_grown) hb10)); clear hb10)
      clear F9
      go_wp2_with fail
      go_ret
      exact ⟨rfl, (by first | (go_grown; done) | exact bl_trans hB (by go_grown))⟩
end Go.Proofs.Ytoehmocamaamcaa

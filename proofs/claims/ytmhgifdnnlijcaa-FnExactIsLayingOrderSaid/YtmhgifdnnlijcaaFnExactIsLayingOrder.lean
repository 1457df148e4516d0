/-
  The walk of the law FnExactIsLayingOrder: it returns true for all arguments; no condition.
-/
import Derived.Test.YtmhgifdnnlijcaaTil
import Derived.Test.YtmhgifdnnlijcaaIn
namespace Go.Proofs.Ytmhgifdnnlijcaa
open Go.ChangeShapes Go.WideShapes Go.ChangeAt Go.RowKit Go.Deep
set_option linter.unusedVariables false

set_option maxRecDepth 100000 in
set_option maxHeartbeats 4000000 in
theorem walk_FnExactIsLayingOrder (A0 : Option Addr) (c0 : Nat) (l0 : List (Int)) (x1 y1 : Int) (A2 : Option Addr) (c2 : Nat) (l2 : List (Int × Int × Bool)) (w : World) (hr0 : RdI w A0 l0) (hl0 : l0.length ≤ maxLen) (g1a : I64 x1) (g1b : I64 y1) (hr2 : RdD w A2 l2) (hl2 : l2.length ≤ maxLen) :
    Calls Try.prog 12 #[.agg #[.slice A0 l0.length c0], .agg #[.int .i64 x1, .int .i64 y1], .slice A2 l2.length c2] w fun e w' => e = .returned (.bool true) ∧ Below w.heap.size w w' := by
  have hB := Below.refl w.heap.size w
  have P0 := (Blk.new w 34 [.slice A0 l0.length c0]).alloc (.cells #[.int .i64 x1, .int .i64 y1] 67)
  have P0c := P0.c1
  have P1 := Blk.new2 w (.cells #[.slice A0 l0.length c0] 34) 67 [.int .i64 x1, .int .i64 y1]
  have P1c := P1.c2
  have hr0' := Lib.hid hr0
  have hr2' := Lib.hid hr2
  clear hr0 hr2
  have q0 := szSub_le (1048576) l0.length (by omega) (by omega)
  by_cases h0 : szSub 1048576 l0.length < 0
  · go_enter Try.func12, Try.ntmps12
    go_wp2_with (first | (go_at_call 24; refine (szRegion_any _ _ _ _ _ (by omega) (by omega) (by assumption)).mono ?_; rintro e wn ⟨rfl, hbn⟩; have hSz := bl_sz (bl_trans hB (by go_grown)) hbn; replace hB := bl_trans (bl_trans hB (by go_grown)) hbn; replace P0 := P0.bel (bl_trans (by go_grown) hbn); replace P0c := P0.c1; replace P1 := P1.bel (bl_trans (by go_grown) hbn); replace P1c := P1.c2; clear hbn) | (go_at_call 15; refine (szDominoS_any _ _ _ _ _ (by omega) (by omega) (by assumption)).mono ?_; rintro e wn ⟨rfl, rfl⟩))
    go_ret
    exact ⟨rfl, (by first | (go_grown; done) | exact bl_trans hB (by go_grown))⟩
  · have f0 := szSub_fits (left := 1048576) (n := l0.length) (by omega)
    have b0 : l0.length ≤ 1048576 := by omega
    clear f0
    have q2 := szSub_le (szSub 1048576 l0.length) l2.length (by omega) (by omega)
    by_cases h2 : szSub (szSub 1048576 l0.length) l2.length < 0
    · go_enter Try.func12, Try.ntmps12
      go_wp2_with (first | (go_at_call 24; refine (szRegion_any _ _ _ _ _ (by omega) (by omega) (by assumption)).mono ?_; rintro e wn ⟨rfl, hbn⟩; have hSz := bl_sz (bl_trans hB (by go_grown)) hbn; replace hB := bl_trans (bl_trans hB (by go_grown)) hbn; replace P0 := P0.bel (bl_trans (by go_grown) hbn); replace P0c := P0.c1; replace P1 := P1.bel (bl_trans (by go_grown) hbn); replace P1c := P1.c2; clear hbn) | (go_at_call 15; refine (szDominoS_any _ _ _ _ _ (by omega) (by omega) (by assumption)).mono ?_; rintro e wn ⟨rfl, rfl⟩))
      go_ret
      exact ⟨rfl, (by first | (go_grown; done) | exact bl_trans hB (by go_grown))⟩
    · have f2 := szSub_fits (left := szSub 1048576 l0.length) (n := l2.length) (by omega)
      have b2 : l2.length ≤ 1048576 := by omega
      clear f2
      go_enter Try.func12, Try.ntmps12
      go_wp2_with (first | (go_at_call 24; refine (szRegion_any _ _ _ _ _ (by omega) (by omega) (by assumption)).mono ?_; rintro e wn ⟨rfl, hbn⟩; have hSz := bl_sz (bl_trans hB (by go_grown)) hbn; replace hB := bl_trans (bl_trans hB (by go_grown)) hbn; replace P0 := P0.bel (bl_trans (by go_grown) hbn); replace P0c := P0.c1; replace P1 := P1.bel (bl_trans (by go_grown) hbn); replace P1c := P1.c2; clear hbn) | (go_at_call 15; refine (szDominoS_any _ _ _ _ _ (by omega) (by omega) (by assumption)).mono ?_; rintro e wn ⟨rfl, rfl⟩))
      have pP0 := P0.lt
      have pP1 := P1.lt
      have s0 : w.heap.size ≤ wn.heap.size := hB.size
      have hR := Below.refl wn.heap.size wn
      go_region_held3 (fun w' => (w'.cell? ⟨w.heap.size, 0, none⟩ = some (.slice A0 l0.length c0)) ∧ (w'.cell? ⟨w.heap.size + 1, 0, none⟩ = some (.int .i64 x1) ∧ w'.cell? ⟨w.heap.size + 1, 1, none⟩ = some (.int .i64 y1))) (go_keep)
        (first | (go_at_call 27; refine (toRegion_any A0 c0 l0 _ b0 (hr0'.out.below (bl_trans hB (by go_grown)))).mono ?_; rintro e w1 ⟨v1, rfl, o1, hb1⟩; skip; replace hB := bl_trans (bl_trans hB (by go_grown)) hb1; obtain ⟨⟨B1, d1, rfl⟩, _⟩ := id o1; have F1 := Lib.hid (o1.in_ (bl_size2 hR (by go_grown))); clear o1; replace P0 := P0.bel (bl_trans (by go_grown) hb1); replace P0c := P0.c1; replace P1 := P1.bel (bl_trans (by go_grown) hb1); replace P1c := P1.c2; replace hR := bl_trans (bl_trans hR (by go_grown)) hb1; have pP0 := P0.lt; have pP1 := P1.lt; clear hb1) | (go_at_call 51; refine (toCell_any x1 y1 _).mono ?_; rintro e w2 ⟨rfl, hb2⟩; skip; replace hB := bl_trans (bl_trans hB (by go_grown)) hb2; replace P0 := P0.bel (bl_trans (by go_grown) hb2); replace P0c := P0.c1; replace P1 := P1.bel (bl_trans (by go_grown) hb2); replace P1c := P1.c2; try replace F1 := Lib.hid (F1.out.bel (bl_trans (by go_grown) hb2)); replace hR := bl_trans (bl_trans hR (by go_grown)) hb2; clear hb2) | (go_at_call 17; refine (toDominoS_any A2 c2 l2 _ b2 (hr2'.out.below (bl_trans hB (by go_grown)))).mono ?_; rintro e w3 ⟨v3, rfl, o3, hb3⟩; skip; replace hB := bl_trans (bl_trans hB (by go_grown)) hb3; obtain ⟨⟨B3, d3, rfl⟩, _⟩ := id o3; have F3 := Lib.hid (o3.in_ (bl_size2 hR (by go_grown))); clear o3; replace P0 := P0.bel (bl_trans (by go_grown) hb3); replace P0c := P0.c1; replace P1 := P1.bel (bl_trans (by go_grown) hb3); replace P1c := P1.c2; try replace F1 := Lib.hid (F1.out.bel (bl_trans (by go_grown) hb3)); replace hR := bl_trans (bl_trans hR (by go_grown)) hb3; clear hb3) | (go_at_call 54; refine (IsLayingOrder_s _ _ _ _ _ _ _ _ _ _ b0 rfl b2 F3.out.cap (F1.out.rd.below (by go_grown)) (F3.out.rd.below (by go_grown))).mono ?_; rintro e w4 ⟨rfl, hb4⟩; skip; replace hB := bl_trans (bl_trans hB (by go_grown)) hb4; replace P0 := P0.bel (bl_trans (by go_grown) hb4); replace P0c := P0.c1; replace P1 := P1.bel (bl_trans (by go_grown) hb4); replace P1c := P1.c2; try replace F1 := Lib.hid (F1.out.bel (bl_trans (by go_grown) hb4)); try replace F3 := Lib.hid (F3.out.bel (bl_trans (by go_grown) hb4)); replace hR := bl_trans (bl_trans hR (by go_grown)) hb4; clear hb4))
      clear F1
      clear F3
      have s4 := hR.size
      clear hR
      go_wp2_with fail
      (refine (toRegion_any A0 c0 l0 _ b0 (hr0'.out.below (bl_trans hB (by go_grown)))).mono ?_; rintro e w5 ⟨v5, rfl, o5, hb5⟩; have s5 := (bl_trans (w := w4) (by go_grown) hb5).size; replace hB := bl_trans (bl_trans hB (by go_grown)) hb5; obtain ⟨⟨B5, d5, rfl⟩, _⟩ := id o5; have F5 := Lib.hid (o5.in_ (bl_start (w := w4) (by go_grown))); clear o5; replace P0 := P0.bel (bl_trans (by go_grown) hb5); replace P0c := P0.c1; replace P1 := P1.bel (bl_trans (by go_grown) hb5); replace P1c := P1.c2; clear hb5)
      have X0 := Blk.new w5 39 [.slice B5 l0.length d5]
      have X0c := X0.c1
      replace P0 := P0.alloc (.cells #[.slice B5 l0.length d5] 39); replace P0c := P0.c1
      replace P1 := P1.alloc (.cells #[.slice B5 l0.length d5] 39); replace P1c := P1.c2
      go_wp2_with fail
      (refine (toDominoS_any A2 c2 l2 _ b2 (hr2'.out.below (bl_trans hB (by go_grown)))).mono ?_; rintro e w6 ⟨v6, rfl, o6, hb6⟩; have s6 := (bl_trans (w := w5) (by go_grown) hb6).size; replace hB := bl_trans (bl_trans hB (by go_grown)) hb6; obtain ⟨⟨B6, d6, rfl⟩, _⟩ := id o6; have F6 := Lib.hid (o6.in_ (lo' := w5.heap.size + 1) (by simp)); clear o6; replace P0 := P0.bel (bl_trans (by go_grown) hb6); replace P0c := P0.c1; replace P1 := P1.bel (bl_trans (by go_grown) hb6); replace P1c := P1.c2; replace X0 := X0.bel (bl_trans (by go_grown) hb6); replace X0c := X0.c1; replace F5 := Lib.hid (F5.out.bel (bl_trans (by go_grown) hb6)); clear hb6)
      go_wp2_with fail
      have hR := Below.refl w6.heap.size w6
      go_region_held3 (fun w' => (w'.cell? ⟨w.heap.size, 0, none⟩ = some (.slice A0 l0.length c0)) ∧ (w'.cell? ⟨w.heap.size + 1, 0, none⟩ = some (.int .i64 x1) ∧ w'.cell? ⟨w.heap.size + 1, 1, none⟩ = some (.int .i64 y1)) ∧ (w'.cell? ⟨w5.heap.size, 0, none⟩ = some (.slice B5 l0.length d5))) (go_keep)
        (first | (go_at_call 51; refine (toCell_any x1 y1 _).mono ?_; rintro e w7 ⟨rfl, hb7⟩; skip; replace hB := bl_trans (bl_trans hB (by go_grown)) hb7; replace P0 := P0.bel (bl_trans (by go_grown) hb7); replace P0c := P0.c1; replace P1 := P1.bel (bl_trans (by go_grown) hb7); replace P1c := P1.c2; replace X0 := X0.bel (bl_trans (by go_grown) hb7); replace X0c := X0.c1; replace F5 := Lib.hid (F5.out.bel (bl_trans (by go_grown) hb7)); replace F6 := Lib.hid (F6.out.bel (bl_trans (by go_grown) hb7)); replace hR := bl_trans (bl_trans hR (by go_grown)) hb7; clear hb7) | (go_at_call 55; refine (IsLayingOrder_i _ _ _ _ _ _ _ _ _ _ b0 rfl b2 F6.out.cap (F5.out.rd.below (by go_grown)) (F6.out.rd.below (by go_grown))).mono ?_; rintro e w8 ⟨rfl, hb8⟩; skip; replace hB := bl_trans (bl_trans hB (by go_grown)) hb8; replace P0 := P0.bel (bl_trans (by go_grown) hb8); replace P0c := P0.c1; replace P1 := P1.bel (bl_trans (by go_grown) hb8); replace P1c := P1.c2; replace X0 := X0.bel (bl_trans (by go_grown) hb8); replace X0c := X0.c1; replace F5 := Lib.hid (F5.out.bel (bl_trans (by go_grown) hb8)); replace F6 := Lib.hid (F6.out.bel (bl_trans (by go_grown) hb8)); replace hR := bl_trans (bl_trans hR (by go_grown)) hb8; clear hb8))
      have s8 := hR.size
      clear hR
      go_wp2_with fail
      have hR := Below.refl w8.heap.size w8
      go_region_held3 (fun w' => (w'.cell? ⟨w.heap.size, 0, none⟩ = some (.slice A0 l0.length c0)) ∧ (w'.cell? ⟨w.heap.size + 1, 0, none⟩ = some (.int .i64 x1) ∧ w'.cell? ⟨w.heap.size + 1, 1, none⟩ = some (.int .i64 y1)) ∧ (w'.cell? ⟨w5.heap.size, 0, none⟩ = some (.slice B5 l0.length d5))) (go_keep)
        (first | (go_at_call 27; refine (toRegion_any A0 c0 l0 _ b0 (hr0'.out.below (bl_trans hB (by go_grown)))).mono ?_; rintro e w9 ⟨v9, rfl, o9, hb9⟩; skip; replace hB := bl_trans (bl_trans hB (by go_grown)) hb9; obtain ⟨⟨B9, d9, rfl⟩, _⟩ := id o9; have F9 := Lib.hid (o9.in_ (bl_size2 hR (by go_grown))); clear o9; replace P0 := P0.bel (bl_trans (by go_grown) hb9); replace P0c := P0.c1; replace P1 := P1.bel (bl_trans (by go_grown) hb9); replace P1c := P1.c2; replace X0 := X0.bel (bl_trans (by go_grown) hb9); replace X0c := X0.c1; replace F5 := Lib.hid (F5.out.bel (bl_trans (by go_grown) hb9)); replace F6 := Lib.hid (F6.out.bel (bl_trans (by go_grown) hb9)); replace hR := bl_trans (bl_trans hR (by go_grown)) hb9; clear hb9) | (go_at_call 30; refine (eqRegion_any _ _ _ _ _ _ _ b0 (F5.out.rd.below (by go_grown)) (F9.out.rd.below (by go_grown))).mono ?_; rintro e w10 ⟨rfl, hb10⟩; skip; replace hB := bl_trans (bl_trans hB (by go_grown)) hb10; replace P0 := P0.bel (bl_trans (by go_grown) hb10); replace P0c := P0.c1; replace P1 := P1.bel (bl_trans (by go_grown) hb10); replace P1c := P1.c2; replace X0 := X0.bel (bl_trans (by go_grown) hb10); replace X0c := X0.c1; replace F5 := Lib.hid (F5.out.bel (bl_trans (by go_grown) hb10)); replace F6 := Lib.hid (F6.out.bel (bl_trans (by go_grown) hb10)); try replace F9 := Lib.hid (F9.out.bel (bl_trans (by go_grown) hb10)); replace hR := bl_trans (bl_trans hR (by go_grown)) hb10; clear hb10))
      clear F9
      have s10 := hR.size
      clear hR
      go_wp2_with fail
      (refine (toDominoS_any A2 c2 l2 _ b2 (hr2'.out.below (bl_trans hB (by go_grown)))).mono ?_; rintro e w11 ⟨v11, rfl, o11, hb11⟩; have s11 := (bl_trans (w := w10) (by go_grown) hb11).size; replace hB := bl_trans (bl_trans hB (by go_grown)) hb11; obtain ⟨⟨B11, d11, rfl⟩, _⟩ := id o11; have F11 := Lib.hid (o11.in_ (bl_start (w := w10) (by go_grown))); clear o11; replace P0 := P0.bel (bl_trans (by go_grown) hb11); replace P0c := P0.c1; replace P1 := P1.bel (bl_trans (by go_grown) hb11); replace P1c := P1.c2; replace X0 := X0.bel (bl_trans (by go_grown) hb11); replace X0c := X0.c1; replace F5 := Lib.hid (F5.out.bel (bl_trans (by go_grown) hb11)); replace F6 := Lib.hid (F6.out.bel (bl_trans (by go_grown) hb11)); clear hb11)
      go_wp2_with fail
      (refine (eqDominoS_any _ _ _ _ _ _ _ b2 (F6.out.rd.below (by go_grown)) (F11.out.rd.below (by go_grown))).mono ?_; rintro e w12 ⟨rfl, hb12⟩; have s12 := (bl_trans (w := w11) (by go_grown) hb12).size; replace hB := bl_trans (bl_trans hB (by go_grown)) hb12; replace P0 := P0.bel (bl_trans (by go_grown) hb12); replace P0c := P0.c1; replace P1 := P1.bel (bl_trans (by go_grown) hb12); replace P1c := P1.c2; replace X0 := X0.bel (bl_trans (by go_grown) hb12); replace X0c := X0.c1; replace F5 := Lib.hid (F5.out.bel (bl_trans (by go_grown) hb12)); replace F6 := Lib.hid (F6.out.bel (bl_trans (by go_grown) hb12)); replace F11 := Lib.hid (F11.out.bel (bl_trans (by go_grown) hb12)); clear hb12)
      clear F11
      go_wp2_with fail
      go_ret
      exact ⟨rfl, (by first | (go_grown; done) | exact bl_trans hB (by go_grown))⟩
end Go.Proofs.Ytmhgifdnnlijcaa

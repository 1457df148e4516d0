/-
  The walk of the law FnExactIsProof: it returns true for all arguments; no condition.
-/
import Derived.Test.YthclolooidnniaaNeut
import Derived.Test.YthclolooidnniaaCells
import Derived.Test.YthclolooidnniaaConv
import Derived.Test.YthclolooidnniaaIn
namespace Go.Proofs.Ythclolooidnniaa
open Go.ChangeShapes Go.WideShapes Go.ChangeAt Go.RowKit Go.Deep
set_option linter.unusedVariables false

set_option maxRecDepth 100000 in
set_option maxHeartbeats 4000000 in
theorem walk_FnExactIsProof (x0 y0 z0 : Int) (A0 : Option Addr) (c0 : Nat) (l0 : List (Int)) (A1 : Option Addr) (c1 : Nat) (l1 : List (Int)) (A2 : Option Addr) (c2 : Nat) (l2 : List (Int × Int)) (w : World) (g0a : I64 x0) (g0b : I64 y0) (g0c : I64 z0) (hr0 : RdI w A0 l0) (hl0 : l0.length ≤ maxLen) (hr1 : RdI w A1 l1) (hl1 : l1.length ≤ maxLen) (hr2 : RdC w A2 l2) (hl2 : l2.length ≤ maxLen) :
    Calls Try.prog 3 #[.agg #[.int .i64 x0, .int .i64 y0, .int .i64 z0, .slice A0 l0.length c0], .agg #[.slice A1 l1.length c1], .slice A2 l2.length c2] w fun e w' => e = .returned (.bool true) ∧ Below w.heap.size w w' := by
  have hB := Below.refl w.heap.size w
  have P0 := (Blk.new w 24 [.int .i64 x0, .int .i64 y0, .int .i64 z0, .slice A0 l0.length c0]).alloc (.cells #[.slice A1 l1.length c1] 26)
  have P0c := P0.c4
  have P1 := Blk.new2 w (.cells #[.int .i64 x0, .int .i64 y0, .int .i64 z0, .slice A0 l0.length c0] 24) 26 [.slice A1 l1.length c1]
  have P1c := P1.c1
  have hr0' := Lib.hid hr0
  have hr1' := Lib.hid hr1
  have hr2' := Lib.hid hr2
  clear hr0 hr1 hr2
  have q0 := szSub_le (1048576) l0.length (by omega) (by omega)
  by_cases h0 : szSub 1048576 l0.length < 0
  · go_enter Try.func3, Try.ntmps3
    go_wp2_with (first | (go_at_call 15; refine (szPattern_any _ _ _ _ _ _ _ _ (by omega) (by omega) (by assumption)).mono ?_; rintro e wn ⟨rfl, hbn⟩; have hSz := bl_sz (bl_trans hB (by go_grown)) hbn; replace hB := bl_trans (bl_trans hB (by go_grown)) hbn; replace P0 := P0.bel (bl_trans (by go_grown) hbn); replace P0c := P0.c4; replace P1 := P1.bel (bl_trans (by go_grown) hbn); replace P1c := P1.c1; clear hbn) | (go_at_call 16; refine (szRegion_any _ _ _ _ _ (by omega) (by omega) (by assumption)).mono ?_; rintro e wn ⟨rfl, hbn⟩; have hSz := bl_sz (bl_trans hB (by go_grown)) hbn; replace hB := bl_trans (bl_trans hB (by go_grown)) hbn; replace P0 := P0.bel (bl_trans (by go_grown) hbn); replace P0c := P0.c4; replace P1 := P1.bel (bl_trans (by go_grown) hbn); replace P1c := P1.c1; clear hbn) | (go_at_call 17; refine (szCellS_any _ _ _ _ _ (by omega) (by omega) (by assumption)).mono ?_; rintro e wn ⟨rfl, rfl⟩))
    go_ret
    exact ⟨rfl, (by first | (go_grown; done) | exact bl_trans hB (by go_grown))⟩
  · have f0 := szSub_fits (left := 1048576) (n := l0.length) (by omega)
    have b0 : l0.length ≤ 1048576 := by omega
    clear f0
    have q1 := szSub_le (szSub 1048576 l0.length) l1.length (by omega) (by omega)
    by_cases h1 : szSub (szSub 1048576 l0.length) l1.length < 0
    · go_enter Try.func3, Try.ntmps3
      go_wp2_with (first | (go_at_call 15; refine (szPattern_any _ _ _ _ _ _ _ _ (by omega) (by omega) (by assumption)).mono ?_; rintro e wn ⟨rfl, hbn⟩; have hSz := bl_sz (bl_trans hB (by go_grown)) hbn; replace hB := bl_trans (bl_trans hB (by go_grown)) hbn; replace P0 := P0.bel (bl_trans (by go_grown) hbn); replace P0c := P0.c4; replace P1 := P1.bel (bl_trans (by go_grown) hbn); replace P1c := P1.c1; clear hbn) | (go_at_call 16; refine (szRegion_any _ _ _ _ _ (by omega) (by omega) (by assumption)).mono ?_; rintro e wn ⟨rfl, hbn⟩; have hSz := bl_sz (bl_trans hB (by go_grown)) hbn; replace hB := bl_trans (bl_trans hB (by go_grown)) hbn; replace P0 := P0.bel (bl_trans (by go_grown) hbn); replace P0c := P0.c4; replace P1 := P1.bel (bl_trans (by go_grown) hbn); replace P1c := P1.c1; clear hbn) | (go_at_call 17; refine (szCellS_any _ _ _ _ _ (by omega) (by omega) (by assumption)).mono ?_; rintro e wn ⟨rfl, rfl⟩))
      go_ret
      exact ⟨rfl, (by first | (go_grown; done) | exact bl_trans hB (by go_grown))⟩
    · have f1 := szSub_fits (left := szSub 1048576 l0.length) (n := l1.length) (by omega)
      have b1 : l1.length ≤ 1048576 := by omega
      clear f1
      have q2 := szSub_le (szSub (szSub 1048576 l0.length) l1.length) l2.length (by omega) (by omega)
      by_cases h2 : szSub (szSub (szSub 1048576 l0.length) l1.length) l2.length < 0
      · go_enter Try.func3, Try.ntmps3
        go_wp2_with (first | (go_at_call 15; refine (szPattern_any _ _ _ _ _ _ _ _ (by omega) (by omega) (by assumption)).mono ?_; rintro e wn ⟨rfl, hbn⟩; have hSz := bl_sz (bl_trans hB (by go_grown)) hbn; replace hB := bl_trans (bl_trans hB (by go_grown)) hbn; replace P0 := P0.bel (bl_trans (by go_grown) hbn); replace P0c := P0.c4; replace P1 := P1.bel (bl_trans (by go_grown) hbn); replace P1c := P1.c1; clear hbn) | (go_at_call 16; refine (szRegion_any _ _ _ _ _ (by omega) (by omega) (by assumption)).mono ?_; rintro e wn ⟨rfl, hbn⟩; have hSz := bl_sz (bl_trans hB (by go_grown)) hbn; replace hB := bl_trans (bl_trans hB (by go_grown)) hbn; replace P0 := P0.bel (bl_trans (by go_grown) hbn); replace P0c := P0.c4; replace P1 := P1.bel (bl_trans (by go_grown) hbn); replace P1c := P1.c1; clear hbn) | (go_at_call 17; refine (szCellS_any _ _ _ _ _ (by omega) (by omega) (by assumption)).mono ?_; rintro e wn ⟨rfl, rfl⟩))
        go_ret
        exact ⟨rfl, (by first | (go_grown; done) | exact bl_trans hB (by go_grown))⟩
      · have f2 := szSub_fits (left := szSub (szSub 1048576 l0.length) l1.length) (n := l2.length) (by omega)
        have b2 : l2.length ≤ 1048576 := by omega
        clear f2
        go_enter Try.func3, Try.ntmps3
        go_wp2_with (first | (go_at_call 15; refine (szPattern_any _ _ _ _ _ _ _ _ (by omega) (by omega) (by assumption)).mono ?_; rintro e wn ⟨rfl, hbn⟩; have hSz := bl_sz (bl_trans hB (by go_grown)) hbn; replace hB := bl_trans (bl_trans hB (by go_grown)) hbn; replace P0 := P0.bel (bl_trans (by go_grown) hbn); replace P0c := P0.c4; replace P1 := P1.bel (bl_trans (by go_grown) hbn); replace P1c := P1.c1; clear hbn) | (go_at_call 16; refine (szRegion_any _ _ _ _ _ (by omega) (by omega) (by assumption)).mono ?_; rintro e wn ⟨rfl, hbn⟩; have hSz := bl_sz (bl_trans hB (by go_grown)) hbn; replace hB := bl_trans (bl_trans hB (by go_grown)) hbn; replace P0 := P0.bel (bl_trans (by go_grown) hbn); replace P0c := P0.c4; replace P1 := P1.bel (bl_trans (by go_grown) hbn); replace P1c := P1.c1; clear hbn) | (go_at_call 17; refine (szCellS_any _ _ _ _ _ (by omega) (by omega) (by assumption)).mono ?_; rintro e wn ⟨rfl, rfl⟩))
        have pP0 := P0.lt
        have pP1 := P1.lt
        have s0 : w.heap.size ≤ wn.heap.size := hB.size
        have hR := Below.refl wn.heap.size wn
        go_region_held3 (fun w' => (w'.cell? ⟨w.heap.size, 0, none⟩ = some (.int .i64 x0) ∧ w'.cell? ⟨w.heap.size, 1, none⟩ = some (.int .i64 y0) ∧ w'.cell? ⟨w.heap.size, 2, none⟩ = some (.int .i64 z0) ∧ w'.cell? ⟨w.heap.size, 3, none⟩ = some (.slice A0 l0.length c0)) ∧ (w'.cell? ⟨w.heap.size + 1, 0, none⟩ = some (.slice A1 l1.length c1))) (go_keep)
          (first | (go_at_call 19; refine (toPattern_any x0 y0 z0 A0 c0 l0 _ b0 (hr0'.out.below (bl_trans hB (by go_grown)))).mono ?_; rintro e w1 ⟨B1, d1, rfl, o1, hb1⟩; skip; replace hB := bl_trans (bl_trans hB (by go_grown)) hb1; have F1 := Lib.hid o1; clear o1; replace P0 := P0.bel (bl_trans (by go_grown) hb1); replace P0c := P0.c4; replace P1 := P1.bel (bl_trans (by go_grown) hb1); replace P1c := P1.c1; replace hR := bl_trans (bl_trans hR (by go_grown)) hb1; have pP0 := P0.lt; have pP1 := P1.lt; clear hb1) | (go_at_call 20; refine (toRegion_any A1 c1 l1 _ b1 (hr1'.out.below (bl_trans hB (by go_grown)))).mono ?_; rintro e w2 ⟨v2, rfl, o2, hb2⟩; skip; replace hB := bl_trans (bl_trans hB (by go_grown)) hb2; obtain ⟨⟨B2, d2, rfl⟩, _⟩ := id o2; have F2 := Lib.hid (o2.in_ (bl_size2 hR (by go_grown))); clear o2; replace P0 := P0.bel (bl_trans (by go_grown) hb2); replace P0c := P0.c4; replace P1 := P1.bel (bl_trans (by go_grown) hb2); replace P1c := P1.c1; try replace F1 := Lib.hid (F1.out.below (bl_trans (by go_grown) hb2)); replace hR := bl_trans (bl_trans hR (by go_grown)) hb2; clear hb2) | (go_at_call 21; refine (toCellS_any A2 c2 l2 _ b2 (hr2'.out.below (bl_trans hB (by go_grown)))).mono ?_; rintro e w3 ⟨v3, rfl, o3, hb3⟩; skip; replace hB := bl_trans (bl_trans hB (by go_grown)) hb3; obtain ⟨⟨B3, d3, rfl⟩, _⟩ := id o3; have F3 := Lib.hid (o3.in_ (bl_size2 hR (by go_grown))); clear o3; replace P0 := P0.bel (bl_trans (by go_grown) hb3); replace P0c := P0.c4; replace P1 := P1.bel (bl_trans (by go_grown) hb3); replace P1c := P1.c1; try replace F1 := Lib.hid (F1.out.below (bl_trans (by go_grown) hb3)); try replace F2 := Lib.hid (F2.out.bel (bl_trans (by go_grown) hb3)); replace hR := bl_trans (bl_trans hR (by go_grown)) hb3; clear hb3) | (go_at_call 18; refine (IsProof_s _ _ _ _ _ _ _ _ _ _ _ _ _ _ b0 (F1.out.below (by go_grown)) b1 (F2.out.rd.below (by go_grown)) rfl b2 (F3.out.rd.below (by go_grown))).mono ?_; rintro e w4 ⟨rfl, hb4⟩; skip; replace hB := bl_trans (bl_trans hB (by go_grown)) hb4; replace P0 := P0.bel (bl_trans (by go_grown) hb4); replace P0c := P0.c4; replace P1 := P1.bel (bl_trans (by go_grown) hb4); replace P1c := P1.c1; try replace F1 := Lib.hid (F1.out.below (bl_trans (by go_grown) hb4)); try replace F2 := Lib.hid (F2.out.bel (bl_trans (by go_grown) hb4)); try replace F3 := Lib.hid (F3.out.bel (bl_trans (by go_grown) hb4)); replace hR := bl_trans (bl_trans hR (by go_grown)) hb4; clear hb4))
        clear F1
        clear F2
        clear F3
        have s4 := hR.size
        clear hR
        go_wp2_with fail
        (refine (toPattern_any x0 y0 z0 A0 c0 l0 _ b0 (hr0'.out.below (bl_trans hB (by go_grown)))).mono ?_; rintro e w5 ⟨B5, d5, rfl, o5, hb5⟩; have s5 := (bl_trans (w := w4) (by go_grown) hb5).size; replace hB := bl_trans (bl_trans hB (by go_grown)) hb5; have F5 := Lib.hid o5; clear o5; replace P0 := P0.bel (bl_trans (by go_grown) hb5); replace P0c := P0.c4; replace P1 := P1.bel (bl_trans (by go_grown) hb5); replace P1c := P1.c1; clear hb5)
        have X0 := Blk.new w5 32 [.int .i64 x0, .int .i64 y0, .int .i64 z0, .slice B5 l0.length d5]
        have X0c := X0.c4
        replace P0 := P0.alloc (.cells #[.int .i64 x0, .int .i64 y0, .int .i64 z0, .slice B5 l0.length d5] 32); replace P0c := P0.c4
        replace P1 := P1.alloc (.cells #[.int .i64 x0, .int .i64 y0, .int .i64 z0, .slice B5 l0.length d5] 32); replace P1c := P1.c1
        go_wp2_with fail
        (refine (toRegion_any A1 c1 l1 _ b1 (hr1'.out.below (bl_trans hB (by go_grown)))).mono ?_; rintro e w6 ⟨v6, rfl, o6, hb6⟩; have s6 := (bl_trans (w := w5) (by go_grown) hb6).size; replace hB := bl_trans (bl_trans hB (by go_grown)) hb6; obtain ⟨⟨B6, d6, rfl⟩, _⟩ := id o6; have F6 := Lib.hid (o6.in_ (lo' := w5.heap.size + 1) (by simp)); clear o6; replace P0 := P0.bel (bl_trans (by go_grown) hb6); replace P0c := P0.c4; replace P1 := P1.bel (bl_trans (by go_grown) hb6); replace P1c := P1.c1; replace X0 := X0.bel (bl_trans (by go_grown) hb6); replace X0c := X0.c4; replace F5 := Lib.hid (F5.out.below (bl_trans (by go_grown) hb6)); clear hb6)
        have X1 := Blk.new w6 34 [.slice B6 l1.length d6]
        have X1c := X1.c1
        replace P0 := P0.alloc (.cells #[.slice B6 l1.length d6] 34); replace P0c := P0.c4
        replace P1 := P1.alloc (.cells #[.slice B6 l1.length d6] 34); replace P1c := P1.c1
        replace X0 := X0.alloc (.cells #[.slice B6 l1.length d6] 34); replace X0c := X0.c4
        go_wp2_with fail
        (refine (toCellS_any A2 c2 l2 _ b2 (hr2'.out.below (bl_trans hB (by go_grown)))).mono ?_; rintro e w7 ⟨v7, rfl, o7, hb7⟩; have s7 := (bl_trans (w := w6) (by go_grown) hb7).size; replace hB := bl_trans (bl_trans hB (by go_grown)) hb7; obtain ⟨⟨B7, d7, rfl⟩, _⟩ := id o7; have F7 := Lib.hid (o7.in_ (lo' := w6.heap.size + 1) (by simp)); clear o7; replace P0 := P0.bel (bl_trans (by go_grown) hb7); replace P0c := P0.c4; replace P1 := P1.bel (bl_trans (by go_grown) hb7); replace P1c := P1.c1; replace X0 := X0.bel (bl_trans (by go_grown) hb7); replace X0c := X0.c4; replace X1 := X1.bel (bl_trans (by go_grown) hb7); replace X1c := X1.c1; replace F5 := Lib.hid (F5.out.below (bl_trans (by go_grown) hb7)); replace F6 := Lib.hid (F6.out.bel (bl_trans (by go_grown) hb7)); clear hb7)
        go_wp2_with fail
        (refine (IsProof_i _ _ _ _ _ _ _ _ _ _ _ _ _ _ b0 (F5.out.below (by go_grown)) b1 (F6.out.rd.below (by go_grown)) rfl b2 (F7.out.rd.below (by go_grown))).mono ?_; rintro e w8 ⟨rfl, hb8⟩; have s8 := (bl_trans (w := w7) (by go_grown) hb8).size; replace hB := bl_trans (bl_trans hB (by go_grown)) hb8; replace P0 := P0.bel (bl_trans (by go_grown) hb8); replace P0c := P0.c4; replace P1 := P1.bel (bl_trans (by go_grown) hb8); replace P1c := P1.c1; replace X0 := X0.bel (bl_trans (by go_grown) hb8); replace X0c := X0.c4; replace X1 := X1.bel (bl_trans (by go_grown) hb8); replace X1c := X1.c1; replace F5 := Lib.hid (F5.out.below (bl_trans (by go_grown) hb8)); replace F6 := Lib.hid (F6.out.bel (bl_trans (by go_grown) hb8)); replace F7 := Lib.hid (F7.out.bel (bl_trans (by go_grown) hb8)); clear hb8)
        go_wp2_with fail
        have hR := Below.refl w8.heap.size w8
        go_region_held3 (fun w' => (w'.cell? ⟨w.heap.size, 0, none⟩ = some (.int .i64 x0) ∧ w'.cell? ⟨w.heap.size, 1, none⟩ = some (.int .i64 y0) ∧ w'.cell? ⟨w.heap.size, 2, none⟩ = some (.int .i64 z0) ∧ w'.cell? ⟨w.heap.size, 3, none⟩ = some (.slice A0 l0.length c0)) ∧ (w'.cell? ⟨w.heap.size + 1, 0, none⟩ = some (.slice A1 l1.length c1)) ∧ (w'.cell? ⟨w5.heap.size, 0, none⟩ = some (.int .i64 x0) ∧ w'.cell? ⟨w5.heap.size, 1, none⟩ = some (.int .i64 y0) ∧ w'.cell? ⟨w5.heap.size, 2, none⟩ = some (.int .i64 z0) ∧ w'.cell? ⟨w5.heap.size, 3, none⟩ = some (.slice B5 l0.length d5)) ∧ (w'.cell? ⟨w6.heap.size, 0, none⟩ = some (.slice B6 l1.length d6))) (go_keep)
          (first | (go_at_call 19; refine (toPattern_any x0 y0 z0 A0 c0 l0 _ b0 (hr0'.out.below (bl_trans hB (by go_grown)))).mono ?_; rintro e w9 ⟨B9, d9, rfl, o9, hb9⟩; skip; replace hB := bl_trans (bl_trans hB (by go_grown)) hb9; have F9 := Lib.hid o9; clear o9; replace P0 := P0.bel (bl_trans (by go_grown) hb9); replace P0c := P0.c4; replace P1 := P1.bel (bl_trans (by go_grown) hb9); replace P1c := P1.c1; replace X0 := X0.bel (bl_trans (by go_grown) hb9); replace X0c := X0.c4; replace X1 := X1.bel (bl_trans (by go_grown) hb9); replace X1c := X1.c1; replace F5 := Lib.hid (F5.out.below (bl_trans (by go_grown) hb9)); replace F6 := Lib.hid (F6.out.bel (bl_trans (by go_grown) hb9)); replace F7 := Lib.hid (F7.out.bel (bl_trans (by go_grown) hb9)); replace hR := bl_trans (bl_trans hR (by go_grown)) hb9; clear hb9) | (go_at_call 23; refine (eqPattern_any _ _ _ _ _ _ _ _ _ _ _ _ _ b0 (F5.out.below (by go_grown)) (F9.out.below (by go_grown))).mono ?_; rintro e w10 ⟨rfl, hb10⟩; skip; replace hB := bl_trans (bl_trans hB (by go_grown)) hb10; replace P0 := P0.bel (bl_trans (by go_grown) hb10); replace P0c := P0.c4; replace P1 := P1.bel (bl_trans (by go_grown) hb10); replace P1c := P1.c1; replace X0 := X0.bel (bl_trans (by go_grown) hb10); replace X0c := X0.c4; replace X1 := X1.bel (bl_trans (by go_grown) hb10); replace X1c := X1.c1; replace F5 := Lib.hid (F5.out.below (bl_trans (by go_grown) hb10)); replace F6 := Lib.hid (F6.out.bel (bl_trans (by go_grown) hb10)); replace F7 := Lib.hid (F7.out.bel (bl_trans (by go_grown) hb10)); try replace F9 := Lib.hid (F9.out.below (bl_trans (by go_grown) hb10)); replace hR := bl_trans (bl_trans hR (by go_grown)) hb10; clear hb10))
        clear F9
        have s10 := hR.size
        clear hR
        go_wp2_with fail
        have hR := Below.refl w10.heap.size w10
        go_region_held3 (fun w' => (w'.cell? ⟨w.heap.size, 0, none⟩ = some (.int .i64 x0) ∧ w'.cell? ⟨w.heap.size, 1, none⟩ = some (.int .i64 y0) ∧ w'.cell? ⟨w.heap.size, 2, none⟩ = some (.int .i64 z0) ∧ w'.cell? ⟨w.heap.size, 3, none⟩ = some (.slice A0 l0.length c0)) ∧ (w'.cell? ⟨w.heap.size + 1, 0, none⟩ = some (.slice A1 l1.length c1)) ∧ (w'.cell? ⟨w5.heap.size, 0, none⟩ = some (.int .i64 x0) ∧ w'.cell? ⟨w5.heap.size, 1, none⟩ = some (.int .i64 y0) ∧ w'.cell? ⟨w5.heap.size, 2, none⟩ = some (.int .i64 z0) ∧ w'.cell? ⟨w5.heap.size, 3, none⟩ = some (.slice B5 l0.length d5)) ∧ (w'.cell? ⟨w6.heap.size, 0, none⟩ = some (.slice B6 l1.length d6))) (go_keep)
          (first | (go_at_call 20; refine (toRegion_any A1 c1 l1 _ b1 (hr1'.out.below (bl_trans hB (by go_grown)))).mono ?_; rintro e w11 ⟨v11, rfl, o11, hb11⟩; skip; replace hB := bl_trans (bl_trans hB (by go_grown)) hb11; obtain ⟨⟨B11, d11, rfl⟩, _⟩ := id o11; have F11 := Lib.hid (o11.in_ (bl_size2 hR (by go_grown))); clear o11; replace P0 := P0.bel (bl_trans (by go_grown) hb11); replace P0c := P0.c4; replace P1 := P1.bel (bl_trans (by go_grown) hb11); replace P1c := P1.c1; replace X0 := X0.bel (bl_trans (by go_grown) hb11); replace X0c := X0.c4; replace X1 := X1.bel (bl_trans (by go_grown) hb11); replace X1c := X1.c1; replace F5 := Lib.hid (F5.out.below (bl_trans (by go_grown) hb11)); replace F6 := Lib.hid (F6.out.bel (bl_trans (by go_grown) hb11)); replace F7 := Lib.hid (F7.out.bel (bl_trans (by go_grown) hb11)); replace hR := bl_trans (bl_trans hR (by go_grown)) hb11; clear hb11) | (go_at_call 24; refine (eqRegion_any _ _ _ _ _ _ _ b1 (F6.out.rd.below (by go_grown)) (F11.out.rd.below (by go_grown))).mono ?_; rintro e w12 ⟨rfl, hb12⟩; skip; replace hB := bl_trans (bl_trans hB (by go_grown)) hb12; replace P0 := P0.bel (bl_trans (by go_grown) hb12); replace P0c := P0.c4; replace P1 := P1.bel (bl_trans (by go_grown) hb12); replace P1c := P1.c1; replace X0 := X0.bel (bl_trans (by go_grown) hb12); replace X0c := X0.c4; replace X1 := X1.bel (bl_trans (by go_grown) hb12); replace X1c := X1.c1; replace F5 := Lib.hid (F5.out.below (bl_trans (by go_grown) hb12)); replace F6 := Lib.hid (F6.out.bel (bl_trans (by go_grown) hb12)); replace F7 := Lib.hid (F7.out.bel (bl_trans (by go_grown) hb12)); try replace F11 := Lib.hid (F11.out.bel (bl_trans (by go_grown) hb12)); replace hR := bl_trans (bl_trans hR (by go_grown)) hb12; clear hb12))
        clear F11
        have s12 := hR.size
        clear hR
        go_wp2_with fail
        (refine (toCellS_any A2 c2 l2 _ b2 (hr2'.out.below (bl_trans hB (by go_grown)))).mono ?_; rintro e w13 ⟨v13, rfl, o13, hb13⟩; have s13 := (bl_trans (w := w12) (by go_grown) hb13).size; replace hB := bl_trans (bl_trans hB (by go_grown)) hb13; obtain ⟨⟨B13, d13, rfl⟩, _⟩ := id o13; have F13 := Lib.hid (o13.in_ (bl_start (w := w12) (by go_grown))); clear o13; replace P0 := P0.bel (bl_trans (by go_grown) hb13); replace P0c := P0.c4; replace P1 := P1.bel (bl_trans (by go_grown) hb13); replace P1c := P1.c1; replace X0 := X0.bel (bl_trans (by go_grown) hb13); replace X0c := X0.c4; replace X1 := X1.bel (bl_trans (by go_grown) hb13); replace X1c := X1.c1; replace F5 := Lib.hid (F5.out.below (bl_trans (by go_grown) hb13)); replace F6 := Lib.hid (F6.out.bel (bl_trans (by go_grown) hb13)); replace F7 := Lib.hid (F7.out.bel (bl_trans (by go_grown) hb13)); clear hb13)
        go_wp2_with fail
        (refine (eqCellS_any _ _ _ _ _ _ _ b2 (F7.out.rd.below (by go_grown)) (F13.out.rd.below (by go_grown))).mono ?_; rintro e w14 ⟨rfl, hb14⟩; have s14 := (bl_trans (w := w13) (by go_grown) hb14).size; replace hB := bl_trans (bl_trans hB (by go_grown)) hb14; replace P0 := P0.bel (bl_trans (by go_grown) hb14); replace P0c := P0.c4; replace P1 := P1.bel (bl_trans (by go_grown) hb14); replace P1c := P1.c1; replace X0 := X0.bel (bl_trans (by go_grown) hb14); replace X0c := X0.c4; replace X1 := X1.bel (bl_trans (by go_grown) hb14); replace X1c := X1.c1; replace F5 := Lib.hid (F5.out.below (bl_trans (by go_grown) hb14)); replace F6 := Lib.hid (F6.out.bel (bl_trans (by go_grown) hb14)); replace F7 := Lib.hid (F7.out.bel (bl_trans (by go_grown) hb14)); replace F13 := Lib.hid (F13.out.bel (bl_trans (by go_grown) hb14)); clear hb14)
        clear F13
        go_wp2_with fail
        go_ret
        exact ⟨rfl, (by first | (go_grown; done) | exact bl_trans hB (by go_grown))⟩
end Go.Proofs.Ythclolooidnniaa

/-
  The walk of the law FnTriangles: it returns true for all arguments; no condition.
-/
import Derived.Test.YtdcjhfmkkcakhaaAltP
import Derived.Test.YtdcjhfmkkcakhaaL25D
import Derived.Test.YtdcjhfmkkcakhaaAt
namespace Go.Proofs.Ytdcjhfmkkcakhaa
open Go.ChangeShapes Go.WideShapes Go.ChangeAt Go.RowKit Go.Deep
set_option linter.unusedVariables false

set_option maxRecDepth 100000 in
set_option maxHeartbeats 4000000 in
theorem walk_FnTriangles (A0 : Option Addr) (c0 : Nat) (l0 : List (Int)) (w : World) (hr0 : RdB w A0 l0) (hl0 : l0.length ≤ maxLen) :
    Calls Try.prog 9 #[.slice A0 l0.length c0] w fun e w' => e = .returned (.bool true) ∧ Below w.heap.size w w' := by
  have hB := Below.refl w.heap.size w
  by_cases hbig : (l0.length : Int) > 1048576
  · have hq : decide ((l0.length : Int) > 1048576) = true := decide_eq_true hbig
    go_enter Try.func9, Try.ntmps9
    go_wp2_with (go_at_call 12; refine (big_any _ _ _ _ hl0).mono ?_; rintro e wn ⟨h1, rfl⟩; rw [hq] at h1; subst h1)
    go_ret
    exact ⟨rfl, hB⟩
  · have hq : decide ((l0.length : Int) > 1048576) = false := decide_eq_false hbig
    have hl : l0.length ≤ 1048576 := by omega
    obtain ⟨k, hk, h5⟩ := atB_mod hr0 0 5 (by decide)
    obtain ⟨y, hy, h4⟩ := atB_mod hr0 1 4 (by decide)
    have h5' : (atB l0 0).tmod 5 = (k : Int) := h5
    have h4' : (atB l0 1).tmod 4 = (y : Int) := h4
    have hr0' := Lib.hid hr0
    clear hr0 hbig h4 h5
    go_enter Try.func9, Try.ntmps9
    go_wp2_with (go_at_call 12; refine (big_any _ _ _ _ hl0).mono ?_; rintro e wn ⟨h1, rfl⟩; rw [hq] at h1; subst h1)
    (refine (DrawAlternating_any A0 c0 l0 _ hl hr0'.out).mono ?_; rintro e w1 ⟨n, m, A3, c3, rfl, hn1, hn4, hm, hr3, hb1⟩)
    have T := tri_law hn1 hn4 hm
    obtain ⟨N, hN⟩ : ∃ N, N = m.length := ⟨_, rfl⟩
    have hN5 : N ≤ 5 := by rw [hN]; exact T.l5
    have HN := Lib.hid hN
    have HT := Lib.hid T
    have Hr3 := Lib.hid hr3
    have Hb1 := Lib.hid hb1
    have r8 := Lib.hid (hr0'.out.below hb1)
    rw [← hN]
    clear T hr3 hb1 hm hn1 hn4 hN
    go_wp2_with fail
    (refine (TriangleOf_i A3 N c3 m _ HN.out (by omega) (fun r hr => Nat.le_trans (HT.out.r5 r hr) (by decide)) Hr3.out).mono ?_; rintro e w2 ⟨v4, rfl, i4, hb2⟩; rw [HT.out.alt]; obtain ⟨⟨A4, c4, rfl⟩, _⟩ := id i4; rw [HT.out.len, ← HN.out] at i4 ⊢; have R4 := Lib.hid i4.rd; have HB2 := Lib.hid (bl_trans Hb1.out hb2); have HR3 := Lib.hid (Hr3.out.below hb2); clear i4 hb2)
    go_wp2_with fail
    (refine (MatrixOf_i A4 N c4 (triR m) _ (by rw [HT.out.len]; exact HN.out) (by omega) (fun r hr => Nat.le_trans (HT.out.t5 r hr) (by decide)) R4.out).mono ?_; rintro e w3 ⟨v6, rfl, i6, hb3⟩; rw [HT.out.tri]; rw [HT.out.mat] at i6; obtain ⟨⟨A6, c6, rfl⟩, _⟩ := id i6; rw [← HN.out] at i6 ⊢; have R6 := Lib.hid i6.rd; have HB3 := Lib.hid (bl_trans HB2.out hb3); have T3 := Lib.hid (HR3.out.below hb3); have T4 := Lib.hid (R4.out.below hb3); clear i6 hb3 HB2 Hb1 Hr3 HR3 R4)
    have hc0 := (HB3.out).size
    have r9 := Lib.hid (hr0'.out.below HB3.out)
    have hn' : (1 : Int) + (k : Int) = ((k + 1 : Nat) : Int) := by omega
    go_wp2_with (go_at_call 16; refine (at_lit A0 c0 l0 0 0 rfl _ (by omega) hl r9.out).mono ?_; rintro e wn ⟨rfl, rfl⟩)
    have hct := cntT_acS ⟨k + 1, by omega⟩
    replace hct : cntT ((k + 1 : Nat) : Int) = (acS (k + 1) : Nat) := hct.resolve_left (by show ¬ k + 1 = 0; omega)
    obtain ⟨z, hz⟩ : ∃ z : Nat, z = acS (k + 1) := ⟨_, rfl⟩
    rw [← hz] at hct
    have Hz := Lib.hid hz
    have Hct := Lib.hid hct
    have hzz : (!((z : Nat) : Int) == ((z : Nat) : Int)) = false := by simp
    have hNN : (!(N : Int) == (N : Int)) = false := by simp
    clear hz hct
    go_wp2_with fail
    (refine (IsTriangle_i A4 N c4 (triR m) _ (by rw [HT.out.len]; exact HN.out) (by omega) (fun r hr => Nat.le_trans (HT.out.t5 r hr) (by decide)) T4.out).mono ?_; rintro e w4 ⟨rfl, hb4⟩; rw [HT.out.tri]; have hW4 := Lib.hid hb4; clear hb4)
    go_wp2_with fail
    (refine (CountTriangles_i ((k + 1 : Nat) : Int) _).mono ?_; rintro e w5 ⟨rfl, hb5⟩; rw [Hct.out]; have hW5 := Lib.hid (bl_trans hW4.out hb5); clear hb5 hW4)
    go_wp2_with fail
    (refine (AlternatingCount_s (k + 1) (by omega) (by omega) _).mono ?_; rintro e w6 ⟨rfl, hb6⟩; rw [← Hz.out]; have hW6 := Lib.hid (bl_trans hW5.out hb6); clear hb6 hW5)
    have HBW := Lib.hid (bl_trans HB3.out hW6.out)
    have T36 := Lib.hid (T3.out.below hW6.out)
    have T46 := Lib.hid (T4.out.below hW6.out)
    have T66 := Lib.hid (R6.out.below hW6.out)
    clear HB3 T3 T4 R6 hW6 hc0
    go_wp2_with fail
    go_loopw [9] (fun q wr => ∃ j : Nat, j ≤ N ∧ q = .int .i64 (j : Int) ∧ Below w6.heap.size w6 wr) (fun q _ => N - (intOf q).toNat)
    case atStart => exact ⟨0, by omega, rfl, Below.refl _ _⟩
    case round =>
      obtain ⟨j, hj, rfl, hbj⟩ := hrel
      by_cases hlt : j < N
      · obtain ⟨b1, o1, x, A7, c7, rfl, hbl1, hx, _, hrx, hcx⟩ := (T36.out.below hbj).at_ (k := j) (by rw [← HN.out]; exact hlt)
        obtain ⟨b2, o2, x', A8, c8, rfl, hbl2, hx', _, hrx', hcx'⟩ := (T66.out.below hbj).at_ (k := j) (by rw [← HN.out]; exact hlt)
        obtain rfl : x = x' := by rw [hx] at hx'; injection hx'
        have hxl : x.length ≤ 1048576 := Nat.le_trans (HT.out.r5 x (List.mem_of_getElem? hx)) (by decide)
        obtain ⟨X, hX⟩ : ∃ X, X = x.length := ⟨_, rfl⟩
        rw [← hX] at hcx hcx' hxl
        have HX := Lib.hid hX
        have q1 := bq_cell hcx
        have q2 := bq_cell hcx'
        have Hrx := Lib.hid hrx
        have Hrx' := Lib.hid hrx'
        have Hbj := Lib.hid hbj
        clear hx hx' hrx hrx' hbj hX
        go_wp2_with fail
        (refine wp_region_quiet_bel (by kernel_rfl) (by kernel_rfl) ?_; (repeat (first | go_big_quiet_step ((go_at_call 68; exact Calls.bel_w (fun W hW => (sameInts_any A8 A7 X X c8 c7 x x W HX.out HX.out hxl hxl (Hrx'.out.below hW) (Hrx.out.below hW)).mono (fun e w' h => ⟨h.1.trans (ret_bool (decide_eq_true rfl)), h.2⟩)))) | quiet_step ((go_at_call 68; exact Calls.bel_w (fun W hW => (sameInts_any A8 A7 X X c8 c7 x x W HX.out HX.out hxl hxl (Hrx'.out.below hW) (Hrx.out.below hW)).mono (fun e w' h => ⟨h.1.trans (ret_bool (decide_eq_true rfl)), h.2⟩)))))); refine wpQuiet_nil ?_; intro wq hw0; obtain ⟨⟨_, hbq⟩, hw1⟩ := hw0; subst hw1; try dsimp only)
        go_wp2_with fail
        go_roundw
        case rel => exact ⟨j + 1, by omega, by go_num, bl_trans Hbj.out hbq⟩
        case measure => simp [intOf]; omega
      · obtain rfl : j = N := by omega
        have hbJ := Lib.hid hbj
        have T4J := Lib.hid (T46.out.below hbj)
        have HBJ := Lib.hid (bl_trans HBW.out hbj)
        clear hbj T46 T36 T66 HBW
        obtain ⟨wj, rfl⟩ : ∃ wj : World, wj = wr := ⟨_, rfl⟩
        go_wp2_with fail
        go_loopw [10] (fun q wx => ∃ i : Nat, 1 ≤ i ∧ (i ≤ j ∨ i = 1) ∧ q = .int .i64 (i : Int) ∧ Below wj.heap.size wj wx) (fun q _ => j + 1 - (intOf q).toNat)
        case atStart => exact ⟨1, by omega, by omega, rfl, Below.refl _ _⟩
        case round =>
          obtain ⟨i, hi1, hij, rfl, hbi⟩ := hrel
          by_cases hlt2 : i < j
          · obtain ⟨b1, o1, x, A7, c7, rfl, hbl1, hx, _, hrx, hcx⟩ := (T4J.out.below hbi).at_ (k := i) (by rw [HT.out.len, ← HN.out]; exact hlt2)
            have hxl : x.length ≤ 1048576 := Nat.le_trans (HT.out.t5 x (List.mem_of_getElem? hx)) (by decide)
            have hu := HT.out.und i x hi1 hx
            obtain ⟨X, hX⟩ : ∃ X, X = x.length := ⟨_, rfl⟩
            rw [← hX] at hcx hxl
            have HX := Lib.hid hX
            have Hrx := Lib.hid hrx
            obtain ⟨cu, hcu⟩ : ∃ cu, cu = cntU x := ⟨_, rfl⟩
            rw [← hcu] at hu
            have Hcu := Lib.hid hcu
            have hu2 : ¬ cu < 1 := by omega
            clear hx hrx hX hcu
            go_wp2_with (go_at_call 69; go_must (refine (CountUnder_i A7 X c7 x _ HX.out hxl Hrx.out).mono ?_; rintro e w8 ⟨rfl, hb8⟩; rw [← Hcu.out]; replace hbi := bl_trans hbi hb8; clear hb8))
            go_roundw
            case rel => exact ⟨i + 1, by omega, by omega, by go_num, hbi⟩
            case measure => simp [intOf]; omega
          · have HBi := Lib.hid (bl_trans HBJ.out hbi)
            have r10 := Lib.hid (hr0'.out.below HBi.out)
            clear hbi
            go_wp2_with (go_at_call 16; refine (at_lit A0 c0 l0 1 1 rfl _ (by omega) hl r10.out).mono ?_; rintro e wn ⟨rfl, rfl⟩)
            have hbl := Blk.new wr 3 [.int .i64 1, .int .i64 (2 + (y : Int))]
            have q1 := bq_cell hbl.c2.2
            have Hrow := Lib.hid (show RdI (wr.alloc (.cells #[.int .i64 1, .int .i64 (2 + (y : Int))] 3)) (some ⟨wr.heap.size, 0, none⟩) [1, 2 + (y : Int)] from ⟨hbl.rd rfl, fun x hx => by simp at hx; rcases hx with rfl | rfl <;> exact ⟨by omega, by omega⟩⟩)
            have Hcu := Lib.hid (show cntU [1, 2 + (y : Int)] = 2 + (y : Int) from cntU_two ⟨y, by omega⟩)
            have hqq : ((2 + (y : Int)) == (2 + (y : Int))) = true := by simp
            have hjj : ((j : Int) == (j : Int)) = true := by simp
            have hal := Lib.hid (bl_trans HBi.out (bl_alloc (Below.refl wr.heap.size wr) (.cells #[.int .i64 1, .int .i64 (2 + (y : Int))] 3)))
            clear hbl
            go_wp2_with fail
            (refine wp_region_quiet_bel (by kernel_rfl) (by kernel_rfl) ?_; (repeat (first | go_big_quiet_step ((go_at_call 69; exact Calls.bel_w (fun W hW => (CountUnder_i (some ⟨wr.heap.size, 0, none⟩) 2 2 [1, 2 + (y : Int)] W rfl (by decide) (Hrow.out.below hW)).mono (fun e w' h => ⟨h.1.trans (ret_int Hcu.out), h.2⟩)))) | quiet_step ((go_at_call 69; exact Calls.bel_w (fun W hW => (CountUnder_i (some ⟨wr.heap.size, 0, none⟩) 2 2 [1, 2 + (y : Int)] W rfl (by decide) (Hrow.out.below hW)).mono (fun e w' h => ⟨h.1.trans (ret_int Hcu.out), h.2⟩)))))); refine wpQuiet_nil ?_; intro wq hw0; obtain ⟨⟨_, hbq⟩, hw1⟩ := hw0; subst hw1; try dsimp only)
            go_wp2_with fail
            go_ret
            exact ⟨rfl, bl_trans hal.out hbq⟩
end Go.Proofs.Ytdcjhfmkkcakhaa

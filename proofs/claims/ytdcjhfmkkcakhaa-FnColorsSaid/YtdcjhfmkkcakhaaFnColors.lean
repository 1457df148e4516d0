/-
  The walk of the law FnColors: it returns true for all arguments; no condition.
-/
import Derived.Test.YtdcjhfmkkcakhaaColP
import Derived.Test.YtdcjhfmkkcakhaaTouD
import Derived.Test.YtdcjhfmkkcakhaaTouch
import Derived.BigQuiet
import Derived.Deep.CutRange
namespace Go.Proofs.Ytdcjhfmkkcakhaa
open Go.ChangeShapes Go.WideShapes Go.ChangeAt Go.RowKit Go.Deep
set_option linter.unusedVariables false

set_option maxRecDepth 100000 in
set_option maxHeartbeats 4000000 in
theorem walk_FnColors (A0 : Option Addr) (c0 : Nat) (l0 : List (Int)) (w : World) (hr0 : RdB w A0 l0) (hl0 : l0.length ≤ maxLen) :
    Calls Try.prog 8 #[.slice A0 l0.length c0] w fun e w' => e = .returned (.bool true) ∧ Below w.heap.size w w' := by
  have hB := Below.refl w.heap.size w
  by_cases hbig : (l0.length : Int) > 1048576
  · have hq : decide ((l0.length : Int) > 1048576) = true := decide_eq_true hbig
    go_enter Try.func8, Try.ntmps8
    go_wp2_with (go_at_call 12; refine (big_any _ _ _ _ hl0).mono ?_; rintro e wn ⟨h1, rfl⟩; rw [hq] at h1; subst h1)
    go_ret
    exact ⟨rfl, hB⟩
  · have hq : decide ((l0.length : Int) > 1048576) = false := decide_eq_false hbig
    have hl : l0.length ≤ 1048576 := by omega
    have hr0' := Lib.hid hr0
    clear hr0 hbig
    go_enter Try.func8, Try.ntmps8
    go_wp2_with (go_at_call 12; refine (big_any _ _ _ _ hl0).mono ?_; rintro e wn ⟨h1, rfl⟩; rw [hq] at h1; subst h1)
    (refine (DrawTouching_any A0 c0 l0 _ hl hr0'.out).mono ?_; rintro e w1 ⟨A, c, l, rfl, hap, hl14, hr1, hcap, hb1⟩)
    obtain ⟨m, cs, hfw, hm4, hcol, hless, hprop, hmost, htch, hzero, hsix, hgl⟩ := colors_law hap
    have hgr : greedy l = greedyTo l l.length := by rw [greedy, if_pos (apart_iff.1 hap).1]
    have hrng := Lib.hid (fun i (hi : i < l.length) => by have := greedyTo_rng l l.length i hi; rw [← hgr] at this; exact this)
    have hll : l.length ≤ 1048576 := by omega
    have hcl : cs.length ≤ 1048576 := by have := colorR_len l (m : Int); rw [hcol] at this; simp at this; omega
    have Hr1 := Lib.hid hr1
    have Hb1 := Lib.hid hb1
    have Hgl := Lib.hid hgl
    have Hprop := Lib.hid hprop
    have Hmost := Lib.hid hmost
    have Htch := Lib.hid htch
    have Hzero := Lib.hid hzero
    have Hsix := Lib.hid hsix
    have Hcol := Lib.hid hcol
    have Hless := Lib.hid hless
    have Hfw := Lib.hid hfw
    clear hr1 hb1 hgl hprop hmost htch hzero hsix hcol hless hfw hgr hap
    go_wp2_with fail
    (refine (GreedyColors_i A c l _ hll Hr1.out hcap).mono ?_; rintro e w2 ⟨v2, rfl, o2, hb2⟩; obtain ⟨⟨A2, c2, rfl⟩, _⟩ := id o2; rw [Hgl.out]; have R2 := Lib.hid o2.rd; have HB2 := Lib.hid (bl_trans Hb1.out hb2); have D2 := Lib.hid (Hr1.out.below hb2); clear o2 hb2 Hb1 Hr1)
    go_wp2_with fail
    (refine (FewestColors_i A c l _ hll D2.out hcap).mono ?_; rintro e w3 ⟨rfl, hb3⟩; rw [Hfw.out]; have R3 := Lib.hid (R2.out.below hb3); have HB3 := Lib.hid (bl_trans HB2.out hb3); have D3 := Lib.hid (D2.out.below hb3); clear hb3 HB2 D2 R2)
    go_wp2_with fail
    (refine (ColorWith_i A c l (m : Int) _ hll D3.out hcap).mono ?_; rintro e w4 ⟨v4, rfl, o4, hb4⟩; rw [Hcol.out] at o4 ⊢; have o4' : OwI w3.heap.size w4 v4 cs := o4; obtain ⟨⟨A4, c4, rfl⟩, _⟩ := id o4'; have C4 := Lib.hid o4'.rd; have R4 := Lib.hid (R3.out.below hb4); have HB4 := Lib.hid (bl_trans HB3.out hb4); have D4 := Lib.hid (D3.out.below hb4); clear o4 o4' hb4 HB3 D3 R3)
    go_wp2_with fail
    (refine (ColorWith_i A c l ((m : Int) - 1) _ hll D4.out hcap).mono ?_; rintro e w5 ⟨v5, rfl, o5, hb5⟩; rw [Hless.out] at o5 ⊢; obtain ⟨⟨A5, c5, rfl⟩, _⟩ := id o5; have C5 := Lib.hid (C4.out.below hb5); have R5 := Lib.hid (R4.out.below hb5); have HB5 := Lib.hid (bl_trans HB4.out hb5); have D5 := Lib.hid (D4.out.below hb5); clear o5 hb5 HB4 D4 R4 C4)
    have hq0 : decide ((m : Int) < 0) = false := decide_eq_false (by omega)
    have hq4 : decide ((m : Int) > 4) = false := decide_eq_false (by omega)
    have hNN : (!(l.length : Int) == (l.length : Int)) = false := by simp
    go_wp2_with fail
    (refine (AreProper_i A c l A4 c4 cs _ hll hcl D5.out hcap C5.out).mono ?_; rintro e w6 ⟨rfl, hb6⟩; rw [Hprop.out]; have R6 := Lib.hid (R5.out.below hb6); have HB6 := Lib.hid (bl_trans HB5.out hb6); have D6 := Lib.hid (D5.out.below hb6); clear hb6 HB5 D5 R5 C5)
    go_wp2_with fail
    go_loopw [10, 11, 12] (fun p t q wr => ∃ k : Nat, k ≤ l.length ∧ p = .int .i64 (mostTo (greedy l) k) ∧ t = .bool (tchTo l k) ∧ q = .int .i64 (k : Int) ∧ mostTo (greedy l) k ≤ 14 ∧ Below w6.heap.size w6 wr) (fun _ _ q _ => l.length - (intOf q).toNat)
    case atStart => exact ⟨0, by omega, rfl, rfl, rfl, by rw [mostTo]; decide, Below.refl _ _⟩
    case round =>
      obtain ⟨k, hk, rfl, rfl, rfl, hM, hbk⟩ := hrel
      have hM0 := mostTo_nonneg (greedy l) k
      by_cases hlt : k < l.length
      · obtain ⟨b1, o1, x, hA2, hbl1, hx, _, _, hcx⟩ := (R6.out.below hbk).at_ (k := k) (by rw [Hgl.out]; exact hlt)
        have hx0 := hrng.out k hlt
        have hcx2 : cAt (greedy l) k = x := cAt_eq hx
        rw [hcx2] at hx0
        have Hms := Lib.hid (show mostTo (greedy l) (k + 1) = max (mostTo (greedy l) k) (x + 1) by rw [mostTo, hcx2])
        obtain ⟨M, hMe⟩ : ∃ M, M = mostTo (greedy l) k := ⟨_, rfl⟩
        rw [← hMe] at Hms hM hM0 ⊢
        have Hbk := Lib.hid hbk
        obtain ⟨T, hT⟩ : ∃ T, T = tchTo l k := ⟨_, rfl⟩
        rw [← hT]
        have HT := Lib.hid hT
        subst hA2
        clear hx hcx2 hMe hT hbk
        obtain ⟨wo, rfl⟩ : ∃ wo : World, wo = wr := ⟨_, rfl⟩
        have Hcx := Lib.hid hcx
        go_upto_region 15 with fail
        go_cut [10] from 67 to 73 (fun s10 wx => s10 = .int .i64 (max M (x + 1)) ∧ wo = wx)
        case first =>
          go_wp2_with fail
          all_goals go_meet
          · rename_i h; exact ⟨by rw [Int.max_eq_right (by omega)], rfl⟩
          · rename_i h; exact ⟨by rw [Int.max_eq_left (by omega)], rfl⟩
        case rest =>
          obtain ⟨rfl, rfl⟩ := hcut
          obtain ⟨M2, hM2⟩ : ∃ M2, M2 = max M (x + 1) := ⟨_, rfl⟩
          rw [← hM2] at Hms ⊢
          have hM2b : M2 ≤ 14 := by rw [hM2]; omega
          clear hM2
          obtain ⟨b2, o2, x2, y2, z2, hA3, hbl2, hx2, _, _, _, cx, cy, cz⟩ := (D6.out.below Hbk.out).at_ (k := k) hlt
          have Hx2 := Lib.hid hx2
          subst hA3
          clear hx2 hcx
          go_wp2_with fail
          go_loopw [11, 13] (fun t q wr => ∃ i : Nat, i ≤ k ∧ t = .bool (T || tchRow l k i) ∧ q = .int .i64 (i : Int) ∧ Below wo.heap.size wo wr) (fun _ q _ => k - (intOf q).toNat)
          case atStart => exact ⟨0, by omega, by simp [tchRow], rfl, Below.refl _ _⟩
          case round =>
            obtain ⟨i, hi, rfl, rfl, hbi⟩ := hrel
            by_cases hik : i < k
            · obtain ⟨b3, o3, x1, y1, z1, hA3, hbl3, hx1, _, _, _, dx, dy, dz⟩ := (D6.out.below (bl_trans Hbk.out hbi)).at_ (k := i) (by omega)
              injection hA3 with hA3
              injection hA3 with hA3 hA4
              subst hA3
              subst hA4
              have ex := (hbi.cell (p := ⟨b2, o2 + k * 3, none⟩) hbl2).trans cx
              have ey := (hbi.cell (p := ⟨b2, o2 + k * 3 + 1, none⟩) hbl2).trans cy
              have ez := (hbi.cell (p := ⟨b2, o2 + k * 3 + 2, none⟩) hbl2).trans cz
              obtain ⟨t, ht⟩ : ∃ t, t = touchAt l i k := ⟨_, rfl⟩
              have Htt := Lib.hid ht
              have ht1 : touch x1 y1 z1 x2 y2 z2 = t := by rw [ht]; unfold touchAt; rw [dAt_eq hx1, dAt_eq Hx2.out]
              have Ht1 := Lib.hid ht1
              have Ht2 := Lib.hid (show touch x2 y2 z2 x1 y1 z1 = t by rw [touch_comm]; exact ht1)
              obtain ⟨Ti, hTi⟩ : ∃ Ti, Ti = (T || tchRow l k i) := ⟨_, rfl⟩
              rw [← hTi]
              have HTi := Lib.hid hTi
              have hkl : (k : Int) < (l.length : Int) := by omega
              have hil : (i : Int) < (l.length : Int) := by omega
              have hki : (i : Int) < (k : Int) := by omega
              clear ht ht1 hTi hx1 cx cy cz
              obtain ⟨wz, rfl⟩ : ∃ wz : World, wz = wr := ⟨_, rfl⟩
              have Hbi := Lib.hid hbi
              have q1 := bq_cell dx
              have q2 := bq_cell dy
              have q3 := bq_cell dz
              have q4 := bq_cell ex
              have q5 := bq_cell ey
              have q6 := bq_cell ez
              clear hbi
              cases t
              · go_wp2_with fail
                (refine wp_region_quiet_bel (by kernel_rfl) (by kernel_rfl) ?_; (repeat (first | go_big_quiet_step ((go_at_call 62; first | (with_reducible exact Calls.bel_w (fun W _ => (DoTouch_i x1 y1 z1 x2 y2 z2 W).mono (fun e w' h => ⟨h.1.trans (ret_bool Ht1.out), h.2⟩))) | (with_reducible exact Calls.bel_w (fun W _ => (DoTouch_i x2 y2 z2 x1 y1 z1 W).mono (fun e w' h => ⟨h.1.trans (ret_bool Ht2.out), h.2⟩))))) | quiet_step ((go_at_call 62; first | (with_reducible exact Calls.bel_w (fun W _ => (DoTouch_i x1 y1 z1 x2 y2 z2 W).mono (fun e w' h => ⟨h.1.trans (ret_bool Ht1.out), h.2⟩))) | (with_reducible exact Calls.bel_w (fun W _ => (DoTouch_i x2 y2 z2 x1 y1 z1 W).mono (fun e w' h => ⟨h.1.trans (ret_bool Ht2.out), h.2⟩))))))); refine wpQuiet_nil ?_; intro wq hw0; obtain ⟨⟨_, hbq⟩, hw1⟩ := hw0; subst hw1; try dsimp only)
                have HWq := Lib.hid (bl_trans Hbi.out hbq)
                have r1 := bq_cell ((hbq.cell hbl3).trans dx)
                have r2 := bq_cell ((hbq.cell hbl3).trans dy)
                have r3 := bq_cell ((hbq.cell hbl3).trans dz)
                have r4 := bq_cell ((hbq.cell hbl3).trans ex)
                have r5 := bq_cell ((hbq.cell hbl3).trans ey)
                have r6 := bq_cell ((hbq.cell hbl3).trans ez)
                obtain ⟨wy, rfl⟩ : ∃ wy : World, wy = wq := ⟨_, rfl⟩
                clear hbq q1 q2 q3 q4 q5 q6
                cases Ti
                · have HTa := Lib.hid (show (T || tchRow l k (i + 1)) = false by rw [tchRow_succ, ← Bool.or_assoc, ← HTi.out, ← Htt.out]; rfl)
                  go_wp2_with fail
                  (refine wp_region_quiet_bel (by kernel_rfl) (by kernel_rfl) ?_; (repeat (first | go_big_quiet_step ((go_at_call 62; first | (with_reducible exact Calls.bel_w (fun W _ => (DoTouch_i x1 y1 z1 x2 y2 z2 W).mono (fun e w' h => ⟨h.1.trans (ret_bool Ht1.out), h.2⟩))) | (with_reducible exact Calls.bel_w (fun W _ => (DoTouch_i x2 y2 z2 x1 y1 z1 W).mono (fun e w' h => ⟨h.1.trans (ret_bool Ht2.out), h.2⟩))))) | quiet_step ((go_at_call 62; first | (with_reducible exact Calls.bel_w (fun W _ => (DoTouch_i x1 y1 z1 x2 y2 z2 W).mono (fun e w' h => ⟨h.1.trans (ret_bool Ht1.out), h.2⟩))) | (with_reducible exact Calls.bel_w (fun W _ => (DoTouch_i x2 y2 z2 x1 y1 z1 W).mono (fun e w' h => ⟨h.1.trans (ret_bool Ht2.out), h.2⟩))))))); refine wpQuiet_nil ?_; intro wq hw0; obtain ⟨⟨_, hbq⟩, hw1⟩ := hw0; subst hw1; try dsimp only)
                  go_wp2_with fail
                  go_roundw
                  case rel => exact ⟨i + 1, by omega, by rw [HTa.out], by go_num, bl_trans HWq.out hbq⟩
                  case measure => simp [intOf]; omega
                · have HTa := Lib.hid (show (T || tchRow l k (i + 1)) = true by rw [tchRow_succ, ← Bool.or_assoc, ← HTi.out, ← Htt.out]; rfl)
                  go_wp2_with fail
                  (refine wp_region_quiet_bel (by kernel_rfl) (by kernel_rfl) ?_; (repeat (first | go_big_quiet_step (fail) | quiet_step (fail))); refine wpQuiet_nil ?_; intro wq hw0; obtain ⟨⟨_, hbq⟩, hw1⟩ := hw0; subst hw1; try dsimp only)
                  go_wp2_with fail
                  go_roundw
                  case rel => exact ⟨i + 1, by omega, by rw [HTa.out], by go_num, bl_trans HWq.out hbq⟩
                  case measure => simp [intOf]; omega
              · go_wp2_with fail
                (refine wp_region_quiet_bel (by kernel_rfl) (by kernel_rfl) ?_; (repeat (first | go_big_quiet_step ((go_at_call 62; first | (with_reducible exact Calls.bel_w (fun W _ => (DoTouch_i x1 y1 z1 x2 y2 z2 W).mono (fun e w' h => ⟨h.1.trans (ret_bool Ht1.out), h.2⟩))) | (with_reducible exact Calls.bel_w (fun W _ => (DoTouch_i x2 y2 z2 x1 y1 z1 W).mono (fun e w' h => ⟨h.1.trans (ret_bool Ht2.out), h.2⟩))))) | quiet_step ((go_at_call 62; first | (with_reducible exact Calls.bel_w (fun W _ => (DoTouch_i x1 y1 z1 x2 y2 z2 W).mono (fun e w' h => ⟨h.1.trans (ret_bool Ht1.out), h.2⟩))) | (with_reducible exact Calls.bel_w (fun W _ => (DoTouch_i x2 y2 z2 x1 y1 z1 W).mono (fun e w' h => ⟨h.1.trans (ret_bool Ht2.out), h.2⟩))))))); refine wpQuiet_nil ?_; intro wq hw0; obtain ⟨⟨_, hbq⟩, hw1⟩ := hw0; subst hw1; try dsimp only)
                have HWq := Lib.hid (bl_trans Hbi.out hbq)
                have r1 := bq_cell ((hbq.cell hbl3).trans dx)
                have r2 := bq_cell ((hbq.cell hbl3).trans dy)
                have r3 := bq_cell ((hbq.cell hbl3).trans dz)
                have r4 := bq_cell ((hbq.cell hbl3).trans ex)
                have r5 := bq_cell ((hbq.cell hbl3).trans ey)
                have r6 := bq_cell ((hbq.cell hbl3).trans ez)
                obtain ⟨wy, rfl⟩ : ∃ wy : World, wy = wq := ⟨_, rfl⟩
                clear hbq q1 q2 q3 q4 q5 q6
                have HTa := Lib.hid (show (T || tchRow l k (i + 1)) = true by rw [tchRow_succ, ← Bool.or_assoc, ← HTi.out, ← Htt.out]; simp)
                cases Ti
                · go_wp2_with fail
                  (refine wp_region_quiet_bel (by kernel_rfl) (by kernel_rfl) ?_; (repeat (first | go_big_quiet_step ((go_at_call 62; first | (with_reducible exact Calls.bel_w (fun W _ => (DoTouch_i x1 y1 z1 x2 y2 z2 W).mono (fun e w' h => ⟨h.1.trans (ret_bool Ht1.out), h.2⟩))) | (with_reducible exact Calls.bel_w (fun W _ => (DoTouch_i x2 y2 z2 x1 y1 z1 W).mono (fun e w' h => ⟨h.1.trans (ret_bool Ht2.out), h.2⟩))))) | quiet_step ((go_at_call 62; first | (with_reducible exact Calls.bel_w (fun W _ => (DoTouch_i x1 y1 z1 x2 y2 z2 W).mono (fun e w' h => ⟨h.1.trans (ret_bool Ht1.out), h.2⟩))) | (with_reducible exact Calls.bel_w (fun W _ => (DoTouch_i x2 y2 z2 x1 y1 z1 W).mono (fun e w' h => ⟨h.1.trans (ret_bool Ht2.out), h.2⟩))))))); refine wpQuiet_nil ?_; intro wq hw0; obtain ⟨⟨_, hbq⟩, hw1⟩ := hw0; subst hw1; try dsimp only)
                  go_wp2_with fail
                  go_roundw
                  case rel => exact ⟨i + 1, by omega, by rw [HTa.out], by go_num, bl_trans HWq.out hbq⟩
                  case measure => simp [intOf]; omega
                · go_wp2_with fail
                  (refine wp_region_quiet_bel (by kernel_rfl) (by kernel_rfl) ?_; (repeat (first | go_big_quiet_step (fail) | quiet_step (fail))); refine wpQuiet_nil ?_; intro wq hw0; obtain ⟨⟨_, hbq⟩, hw1⟩ := hw0; subst hw1; try dsimp only)
                  go_wp2_with fail
                  go_roundw
                  case rel => exact ⟨i + 1, by omega, by rw [HTa.out], by go_num, bl_trans HWq.out hbq⟩
                  case measure => simp [intOf]; omega
            · obtain rfl : i = k := by omega
              have Hbi := Lib.hid hbi
              clear hbi cx cy cz
              go_wp2_with fail
              go_roundw
              case rel => exact ⟨i + 1, by omega, by rw [Hms.out], by rw [tchTo_succ, HT.out], by go_num, by rw [Hms.out]; exact hM2b, bl_trans Hbk.out Hbi.out⟩
              case measure => simp [intOf]; omega
      · obtain rfl : k = l.length := by omega
        have HBk := Lib.hid (bl_trans HB6.out hbk)
        have R7 := Lib.hid (R6.out.below hbk)
        have D7 := Lib.hid (D6.out.below hbk)
        obtain ⟨M, hMe⟩ : ∃ M, M = mostTo (greedy l) l.length := ⟨_, rfl⟩
        rw [← hMe] at Hmost Hsix hM ⊢
        obtain ⟨T, hT⟩ : ∃ T, T = tchTo l l.length := ⟨_, rfl⟩
        rw [← hT] at Htch ⊢
        have p1 : decide ((m : Int) ≤ M) = true := decide_eq_true Hmost.out
        have p2 : decide ((m : Int) ≥ 2) = T := by rw [← Htch.out]; exact decide_eq_decide.2 (by omega)
        have p3 : ((m : Int) == 0) = ((l.length : Int) == 0) := by
          have := Hzero.out
          rw [Bool.eq_iff_iff, beq_iff_eq, beq_iff_eq]; omega
        obtain ⟨z, hz⟩ : ∃ z, z = ((l.length : Int) == 0) := ⟨_, rfl⟩
        rw [← hz] at p3
        have p4 := hz.symm
        have hTT : (T == T) = true := by simp
        have hzz : (z == z) = true := by simp
        have hcg : (greedy l).length ≤ 1048576 := by rw [Hgl.out]; exact hll
        clear hMe hT hz hbk R6 D6
        by_cases h6 : M > 6
        · have p5 : decide (M > 6) = true := decide_eq_true h6
          clear h6
          go_wp2_with fail
          go_ret
          exact ⟨rfl, HBk.out⟩
        · have p5 : decide (M > 6) = false := decide_eq_false h6
          have hpg : proper l (greedy l) = true := Hsix.out.resolve_left (by omega)
          have HPG := Lib.hid hpg
          have HC := Lib.hid (AreProper_i A c l A2 c2 (greedy l) wr hll hcg D7.out hcap R7.out)
          rw [Hgl.out] at HC
          clear h6 hpg
          go_wp2_with fail
          (refine HC.out.mono ?_; rintro e w8 ⟨rfl, hb8⟩; rw [HPG.out]; have HB8 := Lib.hid (bl_trans HBk.out hb8); clear hb8 HBk)
          go_wp2_with fail
          go_ret
          exact ⟨rfl, HB8.out⟩
end Go.Proofs.Ytdcjhfmkkcakhaa

/-
  The walk of the law FnAlternating: it returns true for all arguments; no condition.
-/
import Derived.Test.YtdcjhfmkkcakhaaAltW
import Derived.Test.YtdcjhfmkkcakhaaL25D
import Derived.Test.YtdcjhfmkkcakhaaAt
namespace Go.Proofs.Ytdcjhfmkkcakhaa
open Go.ChangeShapes Go.WideShapes Go.ChangeAt Go.RowKit Go.Deep
set_option linter.unusedVariables false

theorem take_snoc {α : Type} {l : List α} {j : Nat} {x : α} (h : l[j]? = some x) : l.take (j + 1) = l.take j ++ [x] := by
  rw [List.take_add_one, h]; rfl
theorem half_nat {n k : Nat} : ((n : Int) * (k : Int)).tdiv 2 = ((n * k / 2 : Nat) : Int) := by
  rw [Int.tdiv_eq_ediv_of_nonneg (by have : (0 : Int) ≤ ((n * k : Nat) : Int) := Int.natCast_nonneg _; push_cast at this; exact this)]
  push_cast; rfl
set_option maxRecDepth 100000 in
set_option maxHeartbeats 4000000 in
theorem walk_FnAlternating (A0 : Option Addr) (c0 : Nat) (l0 : List (Int)) (w : World) (hr0 : RdB w A0 l0) (hl0 : l0.length ≤ maxLen) :
    Calls Try.prog 7 #[.slice A0 l0.length c0] w fun e w' => e = .returned (.bool true) ∧ Below w.heap.size w w' := by
  have hB := Below.refl w.heap.size w
  by_cases hbig : (l0.length : Int) > 1048576
  · have hq : decide ((l0.length : Int) > 1048576) = true := decide_eq_true hbig
    go_enter Try.func7, Try.ntmps7
    go_wp2_with (go_at_call 12; refine (big_any _ _ _ _ hl0).mono ?_; rintro e wn ⟨h1, rfl⟩; rw [hq] at h1; subst h1)
    go_ret
    exact ⟨rfl, hB⟩
  · have hq : decide ((l0.length : Int) > 1048576) = false := decide_eq_false hbig
    have hl : l0.length ≤ 1048576 := by omega
    obtain ⟨k, hk, h5⟩ := atB_mod hr0 0 4 (by decide)
    have h5' : (atB l0 0).tmod 4 = (k : Int) := h5
    obtain ⟨n, hn⟩ : ∃ n, n = k + 1 := ⟨_, rfl⟩
    have hn1 : 1 ≤ n := by omega
    have hn4 : n ≤ 4 := by omega
    have hni : (1 : Int) + (k : Int) = (n : Int) := by omega
    have hnk : (n : Int) - 1 = (k : Int) := by omega
    have hnum := alt_num hn1 hn4
    have Hsmall := Lib.hid (wc_b hn4).2
    have Hmem := Lib.hid (fun m (hm : m ∈ spL n) => alt_law hn1 hn4 hm)
    have Hal := Lib.hid (altL_nat hn1 hn4)
    obtain ⟨sl, hsl⟩ : ∃ sl, sl = spL n := ⟨_, rfl⟩
    have HW := Lib.hid (WeightedCount_i n hn1 hn4)
    rw [← hsl] at hnum Hsmall Hmem Hal HW
    obtain ⟨T, hT⟩ : ∃ T, T = n * (n - 1) / 2 := ⟨_, rfl⟩
    rw [← hT] at hnum
    have hT' : T = n * k / 2 := by rw [hT, show n - 1 = k by omega]
    have hTi : ((n : Int) * (k : Int)).tdiv 2 = (T : Int) := by rw [half_nat, hT']
    have hT6 : T ≤ 6 := by
      have : n * k ≤ 4 * 3 := Nat.mul_le_mul hn4 (by omega)
      omega
    obtain ⟨P, hP⟩ : ∃ P : Nat, P = n * k := ⟨_, rfl⟩
    have hPi : (n : Int) * (k : Int) = (P : Int) := by rw [hP]; push_cast; rfl
    have hP12 : P ≤ 12 := by
      have : n * k ≤ 4 * 3 := Nat.mul_le_mul hn4 (by omega)
      omega
    rw [hPi] at hTi
    have HWc := Lib.hid hnum.2.1
    obtain ⟨L, hL⟩ : ∃ L, L = sl.length := ⟨_, rfl⟩
    rw [← hL] at hnum
    have HL := Lib.hid hL
    have hL1 : 1 ≤ L := hnum.2.2.1
    have hL42 : L ≤ 42 := hnum.2.2.2
    have Hac := Lib.hid hnum.1
    obtain ⟨y, hy, h4⟩ := atB_mod hr0 1 L hL1
    have hyL : (y : Int) < (L : Int) := by omega
    have hLnz : ¬ L = 0 := by omega
    have hL0 : ((L : Int) == 0) = false := by simp; omega
    have hLL : (!(L : Int) == (L : Int)) = false := by simp
    have hr0' := Lib.hid hr0
    clear hr0 hbig h5 hsl hT hT' hP hnum hL hn
    go_enter Try.func7, Try.ntmps7
    go_wp2_with (go_at_call 12; refine (big_any _ _ _ _ hl0).mono ?_; rintro e wn ⟨h1, rfl⟩; rw [hq] at h1; subst h1)
    (refine (DrawAlternating_any A0 c0 l0 _ hl hr0'.out).mono ?_; rintro e w1 ⟨n2, m, A3, c3, rfl, hm1, hm4, hm, hr3, hb1⟩)
    have La := Lib.hid (alt_law hm1 hm4 hm)
    obtain ⟨M, hM⟩ : ∃ M, M = m.length := ⟨_, rfl⟩
    have hM4 : M ≤ 4 := by rw [hM]; exact La.out.s1.1
    have hM1 : 1 ≤ M := by rw [hM]; exact La.out.pos
    have HM := Lib.hid hM
    have D1 := Lib.hid hr3
    have HB1 := Lib.hid hb1
    have r1 := Lib.hid (hr0'.out.below hb1)
    rw [← hM]
    clear hr3 hb1 hm hm1 hm4 hM
    go_wp2_with (go_at_call 16; refine (at_lit A0 c0 l0 0 0 rfl _ (by omega) hl r1.out).mono ?_; rintro e wn ⟨rfl, rfl⟩)
    (refine (ListAlternating_i (n : Int) _).mono ?_; rintro e w2 ⟨v, rfl, o2, hb2⟩; rw [Hal.out] at o2; obtain ⟨⟨A5, c5, rfl⟩, _⟩ := id o2; rw [← HL.out] at o2 ⊢; have R2 := Lib.hid o2.rd; have HB2 := Lib.hid (bl_trans HB1.out hb2); have D2 := Lib.hid (D1.out.below hb2); clear o2 hb2 HB1 D1 r1)
    go_wp2_with fail
    go_loopw [6, 7] (fun p q wr => ∃ (j x : Nat), j ≤ T ∧ q = .int .i64 (j : Int) ∧ p = .int .i64 (x : Int) ∧ Hid (x = 2 ^ j) ∧ Below w2.heap.size w2 wr) (fun _ q _ => T - (intOf q).toNat)
    case atStart => exact ⟨0, 1, by omega, rfl, rfl, Lib.hid rfl, Below.refl _ _⟩
    case round =>
      obtain ⟨j, x, hj, rfl, rfl, hx, hbj⟩ := hrel
      by_cases hlt : j < T
      · have hx2 : x ≤ 64 := by rw [hx.out]; exact Nat.le_trans (Nat.pow_le_pow_right (by decide) (show j ≤ 6 by omega)) (by decide)
        have hX := Lib.hid (show 2 * x = 2 ^ (j + 1) by rw [hx.out, Nat.pow_succ]; omega)
        clear hx
        go_wp2_with fail
        go_roundw
        case rel => exact ⟨j + 1, 2 * x, by omega, by go_num, by go_num, hX, hbj⟩
        case measure => simp [intOf]; omega
      · obtain rfl : j = T := by omega
        have Hx := Lib.hid (show wcL sl = x by rw [HWc.out, hx.out])
        have hx64 : x ≤ 64 := by rw [hx.out]; exact Nat.le_trans (Nat.pow_le_pow_right (by decide) hT6) (by decide)
        have hxx : (!(x : Int) == (x : Int)) = false := by simp
        have HB3 := Lib.hid (bl_trans HB2.out hbj)
        have D3 := Lib.hid (D2.out.below hbj)
        have R3 := Lib.hid (R2.out.below hbj)
        clear hbj HB2 D2 R2 hx
        go_wp2_with fail
        (refine (AlternatingCount_i n hn1 (by omega) _).mono ?_; rintro e w4 ⟨rfl, hb4⟩; rw [← Hac.out]; have HB4 := Lib.hid (bl_trans HB3.out hb4); have D4 := Lib.hid (D3.out.below hb4); have R4 := Lib.hid (R3.out.below hb4); clear hb4 HB3 D3 R3)
        go_wp2_with fail
        (refine (HW.out _).mono ?_; rintro e w5 ⟨rfl, hb5⟩; rw [Hx.out]; have HB5 := Lib.hid (bl_trans HB4.out hb5); have D5 := Lib.hid (D4.out.below hb5); have R5 := Lib.hid (R4.out.below hb5); clear hb5 HB4 D4 R4)
        have r5 := Lib.hid (hr0'.out.below HB5.out)
        obtain ⟨b1, o1, ml, A7, c7, rfl, hbl1, hxl, _, hrl, hcl⟩ := R5.out.at_ (k := y) (by rw [← HL.out]; exact hy)
        have Lm := Lib.hid (Hmem.out ml (List.mem_of_getElem? hxl))
        obtain ⟨X, hX⟩ : ∃ X, X = ml.length := ⟨_, rfl⟩
        rw [← hX] at hcl
        have HX := Lib.hid hX
        have hX4 : X ≤ 1048576 := by rw [hX]; have := Lm.out.s1.1; omega
        have hXr := Lib.hid (show ∀ r ∈ ml, r.length ≤ 1048576 from fun r hr => by rw [Lm.out.s1.2.1 r hr]; have := Lm.out.s1.1; omega)
        have Hrl := Lib.hid hrl
        clear hxl hrl hX
        go_wp2_with (go_at_call 16; refine (at_lit A0 c0 l0 1 1 rfl _ (by omega) hl r5.out).mono ?_; rintro e wn ⟨rfl, rfl⟩)
        (refine (IsAlternating_i A7 X c7 ml _ HX.out hX4 hXr.out Hrl.out).mono ?_; rintro e w6 ⟨rfl, hb6⟩; rw [Lm.out.a1]; have HB6 := Lib.hid (bl_trans HB5.out hb6); have D6 := Lib.hid (D5.out.below hb6); clear hb6 HB5 D5 R5 r5 Hrl hXr Lm HX)
        have own0 := Lib.hid (show OwAt w6 w6.heap.size (w6.alloc (.cells #[] 24)) (.slice (some ⟨w6.heap.size, 0, none⟩) 0 0) [] from OwS.new_ _ _ (Nat.le_refl _))
        have hM1i : (M : Int) - 1 = (M : Int) - 1 := rfl
        go_wp2_with fail
        go_loopw [8, 9] (fun p q wr => ∃ (i : Nat) (v : Value), i ≤ M ∧ q = .int .i64 ((i : Int) - 1) ∧ p = v ∧ OwAt w6 w6.heap.size wr v (m.reverse.take (M - i)) ∧ w6.heap.size + 1 ≤ wr.heap.size ∧ Below w6.heap.size w6 wr) (fun _ q _ => (intOf q + 1).toNat)
        case atStart => exact ⟨M, _, by omega, rfl, rfl, by rw [Nat.sub_self]; exact own0.out, by rw [World.size_alloc]; exact Nat.le_refl _, bl_alloc (Below.refl _ _) _⟩
        case round =>
          obtain ⟨i, v, hi, rfl, rfl, ho, hsz, hbi⟩ := hrel
          clear own0
          cases i with
          | succ i =>
            have e1 : ((i + 1 : Nat) : Int) - 1 = (i : Int) := by omega
            rw [e1]
            obtain ⟨b1, o1, row, A8, c8, rfl, hbl1, hx8, _, hr8, hc8⟩ := D6.out.at_ (k := i) (by rw [← HM.out]; omega)
            have hc9 := (hbi.cell (p := ⟨b1, o1 + i, none⟩) hbl1).trans hc8
            have hiM : (i : Int) < (M : Int) := by omega
            have hi0 : (i : Int) ≥ 0 := by omega
            have ht := Lib.hid (show m.reverse.take (M - i) = m.reverse.take (M - (i + 1)) ++ [row] by
              rw [show M - i = M - (i + 1) + 1 by omega]
              refine take_snoc ?_
              rw [List.getElem?_reverse (by rw [← HM.out]; omega), ← HM.out, show M - 1 - (M - (i + 1)) = i by omega]
              exact hx8)
            obtain ⟨X8, hX8⟩ : ∃ X, X = row.length := ⟨_, rfl⟩
            rw [← hX8] at hc9
            have HR8 := Lib.hid (show RowAt w6 wr (.slice A8 X8 c8) row by rw [hX8]; exact ⟨A8, c8, rfl, hr8⟩)
            obtain ⟨⟨Av, cv, rfl⟩, _⟩ := id ho
            obtain ⟨ll, hll⟩ : ∃ ll, ll = m.reverse.take (M - (i + 1)) := ⟨_, rfl⟩
            have hlln : ll.length ≤ 1048576 := by rw [hll, List.length_take]; omega
            rw [← hll] at ho ht ⊢
            obtain ⟨Lv, hLv⟩ : ∃ L, L = ll.length := ⟨_, rfl⟩
            rw [← hLv] at ho ⊢
            have hLv2 : Lv ≤ 1048576 := by omega
            have Ho := Lib.hid ho
            have Hbi := Lib.hid hbi
            have hszb : w6.heap.size ≤ wr.heap.size := by omega
            clear hx8 hr8 hc8 hX8 hll ho hbi hLv
            go_wp2_with (at_builtin; refine wpList_apAt rfl (.tmp 67) (.tmp 72) rfl w6 w6.heap.size (.slice Av Lv cv) ll (.slice A8 X8 c8) row rfl rfl Ho.out HR8.out hszb hlln ?_; intro A9 L9 c9 w7 hL9 o9 b9 g9 s9; have HO9 := Lib.hid o9; have HB9 := Lib.hid (b9 _ Hbi.out); have hs9 := s9; clear o9 b9 g9 s9)
            go_roundw
            case rel => exact ⟨i, _, by omega, by go_num, rfl, by rw [ht.out]; exact HO9.out, by omega, HB9.out⟩
            case measure => simp [intOf] <;> omega
          | zero =>
            obtain ⟨⟨Av, cv, rfl⟩, _⟩ := id ho
            have hrev : (m.reverse.take (M - 0)).length = M := by rw [List.length_take, List.length_reverse, ← HM.out]; omega
            rw [hrev] at ho ⊢
            have htk : m.reverse.take (M - 0) = m.reverse := List.take_of_length_le (by rw [List.length_reverse, ← HM.out]; exact Nat.le_refl _)
            rw [htk] at ho
            obtain ⟨mr, hmr⟩ : ∃ mr, mr = m.reverse := ⟨_, rfl⟩
            have Hmr := Lib.hid hmr
            have hb0 : RdII wr Av mr := by rw [hmr]; exact OwAt.rd ho hbi
            have Bk := Lib.hid hb0
            have D7 := Lib.hid (D6.out.below hbi)
            have HB7 := Lib.hid (bl_trans HB6.out hbi)
            have HMr := Lib.hid (show M = mr.length by rw [hmr, List.length_reverse]; exact HM.out)
            have hSq := La.out.s1
            have hSq2 := La.out.s2
            rw [← hmr] at hSq2
            have HSq := Lib.hid hSq
            have HSq2 := Lib.hid hSq2
            have Hrows := Lib.hid (show ∀ r ∈ m, r.length ≤ 1048576 from fun r hr => by rw [hSq.2.1 r hr]; have := hSq.1; omega)
            have Hrows2 := Lib.hid (show ∀ r ∈ mr, r.length ≤ 1048576 from fun r hr => by rw [hSq2.2.1 r hr]; have := hSq2.1; omega)
            have Ha1 := Lib.hid La.out.a1
            have Ha2 := Lib.hid (show altB mr = true by rw [hmr]; exact La.out.a2)
            obtain ⟨x9, hx9⟩ : ∃ x, x = cmL m := ⟨_, rfl⟩
            have Hc1 := Lib.hid hx9.symm
            have Hc2 := Lib.hid (show cmL mr = x9 by rw [hmr, La.out.c, hx9])
            have hx10 : x9 ≤ 10 := by rw [hx9]; exact La.out.c10
            obtain ⟨v1, hv1⟩ : ∃ x, x = invM m := ⟨_, rfl⟩
            obtain ⟨v2, hv2⟩ : ∃ x, x = invM mr := ⟨_, rfl⟩
            have Hv1 := Lib.hid hv1.symm
            have Hv2 := Lib.hid hv2.symm
            obtain ⟨M2, hM2⟩ : ∃ M2, M2 = M - 1 := ⟨_, rfl⟩
            have hMi : (M : Int) - 1 = (M2 : Int) := by omega
            obtain ⟨P2, hP2⟩ : ∃ P : Nat, P = M * M2 := ⟨_, rfl⟩
            have hP2i : (M : Int) * (M2 : Int) = (P2 : Int) := by rw [hP2]; push_cast; rfl
            have hP2b : P2 ≤ 12 := by
              have : M * M2 ≤ 4 * 3 := Nat.mul_le_mul hM4 (by omega)
              omega
            obtain ⟨T2, hT2⟩ : ∃ T : Nat, T = P2 / 2 := ⟨_, rfl⟩
            have hT2i : ((P2 : Int)).tdiv 2 = (T2 : Int) := by rw [← hP2i, half_nat, hT2, hP2]
            have hT2b : T2 ≤ 6 := by omega
            have g1 := La.out.ge
            have g2 := La.out.le
            have g3 := La.out.sum
            rw [← hmr] at g3
            rw [← hx9] at g1 g3
            rw [← hv1] at g1 g2 g3
            rw [← hv2] at g3
            rw [show m.length * (m.length - 1) / 2 = T2 by rw [← HM.out, ← hM2, ← hP2, hT2]] at g2 g3
            have d1 : decide (v1 ≥ (x9 : Int)) = true := decide_eq_true g1
            have d2 : decide (v1 ≤ (T2 : Int)) = true := decide_eq_true g2
            have d3 : (v1 + v2 == (T2 : Int) + (x9 : Int)) = true := by rw [g3]; simp
            have d4 : ((x9 : Int) == (x9 : Int)) = true := by simp
            have d5 : (((0 : Nat) : Int) - 1 ≥ 0) = False := by simp
            have bv1 : 0 ≤ v1 ∧ v1 ≤ 6 := by omega
            have bv2 : -16 ≤ v2 ∧ v2 ≤ 16 := by omega
            have cb1 : cmL m ≤ 1048576 := by rw [← hx9]; omega
            have cb2 : cmL mr ≤ 1048576 := by rw [Hc2.out]; omega
            have hMl : M ≤ 1048576 := by omega
            clear ho hbi hb0 htk hrev hSq hSq2 hx9 hv1 hv2 hM2 hP2 hT2 g3 hmr
            go_wp2_with fail
            (refine (IsAlternating_i A3 M c3 m _ HM.out hMl Hrows.out D7.out).mono ?_; rintro e wn ⟨rfl, hbn⟩; rw [Ha1.out]; replace HB7 := Lib.hid (bl_trans HB7.out hbn); replace D7 := Lib.hid (D7.out.below hbn); replace Bk := Lib.hid (Bk.out.below hbn); clear hbn)
            go_wp2_with fail
            (refine (IsAlternating_i Av M cv mr _ HMr.out hMl Hrows2.out Bk.out).mono ?_; rintro e wn ⟨rfl, hbn⟩; rw [Ha2.out]; replace HB7 := Lib.hid (bl_trans HB7.out hbn); replace D7 := Lib.hid (D7.out.below hbn); replace Bk := Lib.hid (Bk.out.below hbn); clear hbn)
            go_wp2_with fail
            (refine (CountMinus_i A3 M c3 m _ HM.out hMl Hrows.out cb1 D7.out).mono ?_; rintro e wn ⟨rfl, hbn⟩; rw [Hc1.out]; replace HB7 := Lib.hid (bl_trans HB7.out hbn); replace D7 := Lib.hid (D7.out.below hbn); replace Bk := Lib.hid (Bk.out.below hbn); clear hbn)
            go_wp2_with fail
            (refine (CountMinus_i Av M cv mr _ HMr.out hMl Hrows2.out cb2 Bk.out).mono ?_; rintro e wn ⟨rfl, hbn⟩; rw [Hc2.out]; replace HB7 := Lib.hid (bl_trans HB7.out hbn); replace D7 := Lib.hid (D7.out.below hbn); replace Bk := Lib.hid (Bk.out.below hbn); clear hbn)
            go_wp2_with fail
            (refine (InversionsOf_i A3 M c3 m _ HM.out HSq.out Ha1.out D7.out).mono ?_; rintro e wn ⟨rfl, hbn⟩; rw [Hv1.out]; replace HB7 := Lib.hid (bl_trans HB7.out hbn); replace D7 := Lib.hid (D7.out.below hbn); replace Bk := Lib.hid (Bk.out.below hbn); clear hbn)
            go_wp2_with fail
            (refine (CountMinus_i A3 M c3 m _ HM.out hMl Hrows.out cb1 D7.out).mono ?_; rintro e wn ⟨rfl, hbn⟩; rw [Hc1.out]; replace HB7 := Lib.hid (bl_trans HB7.out hbn); replace D7 := Lib.hid (D7.out.below hbn); replace Bk := Lib.hid (Bk.out.below hbn); clear hbn)
            go_wp2_with fail
            (refine (InversionsOf_i A3 M c3 m _ HM.out HSq.out Ha1.out D7.out).mono ?_; rintro e wn ⟨rfl, hbn⟩; rw [Hv1.out]; replace HB7 := Lib.hid (bl_trans HB7.out hbn); replace D7 := Lib.hid (D7.out.below hbn); replace Bk := Lib.hid (Bk.out.below hbn); clear hbn)
            go_wp2_with fail
            (refine (InversionsOf_i A3 M c3 m _ HM.out HSq.out Ha1.out D7.out).mono ?_; rintro e wn ⟨rfl, hbn⟩; rw [Hv1.out]; replace HB7 := Lib.hid (bl_trans HB7.out hbn); replace D7 := Lib.hid (D7.out.below hbn); replace Bk := Lib.hid (Bk.out.below hbn); clear hbn)
            go_wp2_with fail
            (refine (InversionsOf_i Av M cv mr _ HMr.out HSq2.out Ha2.out Bk.out).mono ?_; rintro e wn ⟨rfl, hbn⟩; rw [Hv2.out]; replace HB7 := Lib.hid (bl_trans HB7.out hbn); replace D7 := Lib.hid (D7.out.below hbn); replace Bk := Lib.hid (Bk.out.below hbn); clear hbn)
            go_wp2_with fail
            (refine (CountMinus_i A3 M c3 m _ HM.out hMl Hrows.out cb1 D7.out).mono ?_; rintro e wn ⟨rfl, hbn⟩; rw [Hc1.out]; replace HB7 := Lib.hid (bl_trans HB7.out hbn); replace D7 := Lib.hid (D7.out.below hbn); replace Bk := Lib.hid (Bk.out.below hbn); clear hbn)
            go_wp2_with fail
            go_ret
            exact ⟨rfl, HB7.out⟩
end Go.Proofs.Ytdcjhfmkkcakhaa

/-
  The walk of the law FnCorners: it returns true for all arguments; no condition.
-/
import Derived.Test.YtdcjhfmkkcakhaaCornP
import Derived.Test.YtdcjhfmkkcakhaaAt
import Derived.StillTailTactics
import Derived.Deep.RegionWith
import Derived.Deep.CutRange
import Derived.Deep.RegionHeld3
namespace Go.Proofs.Ytdcjhfmkkcakhaa
open Go.ChangeShapes Go.WideShapes Go.ChangeAt Go.RowKit Go.Deep
set_option linter.unusedVariables false

theorem pow2_step {k i : Nat} (hi : i < k) (hk : k < 4) : IntKind.i64.wrap (2 * ((sideN i : Nat) : Int)) = ((sideN (i + 1) : Nat) : Int) := by
  have : sideN (i + 1) = 2 * sideN i := by rw [sideN, sideN, Nat.pow_succ]; omega
  have h8 : sideN i ≤ 8 := Nat.pow_le_pow_right (by decide) (show i ≤ 3 by omega)
  rw [this, IntWalk.i64_in _ (by omega)]
  push_cast
  rfl
theorem pow2_step' {k i : Nat} (hi : i < k) (hk : k < 4) : wrap64 (2 * ((sideN i : Nat) : Int)) = ((sideN (i + 1) : Nat) : Int) := by
  rw [← wrap_i64]; exact pow2_step hi hk
set_option maxRecDepth 100000 in
set_option maxHeartbeats 4000000 in
theorem walk_FnCorners (A0 : Option Addr) (c0 : Nat) (l0 : List (Int)) (w : World) (hr0 : RdB w A0 l0) (hl0 : l0.length ≤ maxLen) :
    Calls Try.prog 5 #[.slice A0 l0.length c0] w fun e w' => e = .returned (.bool true) ∧ Below w.heap.size w w' := by
  have hB := Below.refl w.heap.size w
  by_cases hbig : (l0.length : Int) > 1048576
  · have hq : decide ((l0.length : Int) > 1048576) = true := decide_eq_true hbig
    go_enter Try.func5, Try.ntmps5
    go_wp2_with (go_at_call 12; refine (big_any _ _ _ _ hl0).mono ?_; rintro e wn ⟨h1, rfl⟩; rw [hq] at h1; subst h1)
    go_ret
    exact ⟨rfl, hB⟩
  · have hq : decide ((l0.length : Int) > 1048576) = false := decide_eq_false hbig
    have hl : l0.length ≤ 1048576 := by omega
    obtain ⟨k, hk, h4⟩ := atB_mod hr0 0 4 (by decide)
    have hs1 : 0 < sideN k := Nat.pow_pos (by decide)
    have hs8 : sideN k ≤ 8 := Nat.pow_le_pow_right (by decide) (show k ≤ 3 by omega)
    obtain ⟨x, hx, hx4⟩ := atB_mod hr0 1 (sideN k) hs1
    obtain ⟨y, hy, hy4⟩ := atB_mod hr0 2 (sideN k) hs1
    have h4' : (atB l0 0).tmod 4 = (k : Int) := h4
    have hr0' := Lib.hid hr0
    clear hr0 hbig h4
    go_enter Try.func5, Try.ntmps5
    go_wp2_with (first | (go_at_call 12; refine (big_any _ _ _ _ hl0).mono ?_; rintro e wn ⟨h1, rfl⟩; rw [hq] at h1; subst h1) | (go_at_call 16; refine (at_lit A0 c0 l0 0 0 rfl _ (by omega) hl hr0'.out).mono ?_; rintro e wn ⟨rfl, rfl⟩))
    go_loop [4, 5] (fun p q => ∃ i : Nat, i ≤ k ∧ q = .int .i64 i ∧ p = .int .i64 (sideN i : Nat)) (fun _ q => k - (intOf q).toNat)
    case atStart => exact ⟨0, by omega, rfl, rfl⟩
    case round =>
      obtain ⟨i, hi, rfl, rfl⟩ := hrel
      by_cases hlt : i < k
      · have hp2 := pow2_step' hlt hk
        go_wp2_with fail
        go_round
        case rel => exact ⟨i + 1, by omega, by go_num, congrArg _ hp2⟩
        case measure => simp [intOf]; omega
      · obtain rfl : i = k := by omega
        have hz : (((sideN i : Nat) : Int) == 0) = false := by simp only [beq_eq_false_iff_ne]; omega
        have e1 := Lib.hid (show (1 : Int) = ((1 : Nat) : Int) from rfl)
        have e2 := Lib.hid (show (2 : Int) = ((2 : Nat) : Int) from rfl)
        have j1 := Lib.hid (show 1 ≤ 10 by decide)
        have j2 := Lib.hid (show 2 ≤ 10 by decide)
        have rA := Lib.hid (hr0'.out.below (bl_drew (Below.refl _ _)))
        have rB := Lib.hid (hr0'.out.below (bl_drew (Below.alloc (Below.refl _ _) (Nat.le_refl _) (.cells #[.int .i64 0, .int .i64 0] 35))))
        have hH0 := Lib.hid (Blk.new w 35 [.int .i64 (x : Int), .int .i64 (y : Int)]).drew
        have hB0 := Lib.hid (bl_drew (Below.alloc (Below.refl w.heap.size w) (Nat.le_refl _) (.cells #[.int .i64 (x : Int), .int .i64 (y : Int)] 35)))
        go_upto_region 9 with fail
        go_cut [6] from 24 to 32 (fun s6 wx => s6 = .pointer (some ⟨w.heap.size, 0, none⟩) ∧ Blk wx w.heap.size 35 [.int .i64 (x : Int), .int .i64 (y : Int)] ∧ Below w.heap.size w wx)
        case first =>
          go_region_with (first | (go_at_call 16; with_reducible refine (at_lit A0 c0 l0 1 1 e1.out _ j1.out hl rA.out).mono ?_; rintro e wn ⟨rfl, rfl⟩) | (go_at_call 16; with_reducible refine (at_lit A0 c0 l0 2 2 e2.out _ j2.out hl rA.out).mono ?_; rintro e wn ⟨rfl, rfl⟩) | (go_at_call 16; with_reducible refine (at_lit A0 c0 l0 1 1 e1.out _ j1.out hl rB.out).mono ?_; rintro e wn ⟨rfl, rfl⟩) | (go_at_call 16; with_reducible refine (at_lit A0 c0 l0 2 2 e2.out _ j2.out hl rB.out).mono ?_; rintro e wn ⟨rfl, rfl⟩))
          all_goals (go_wp2_with fail; go_meet; exact ⟨rfl, hH0.out, hB0.out⟩)
        case rest =>
          obtain ⟨rfl, H, hB⟩ := hcut
          have Hc := H.c2
          clear rA rB hH0 hB0 e1 e2 j1 j2
          have hc := corn_all hk hx hy
          simp only [cornOk, Bool.and_eq_true, beq_iff_eq] at hc
          obtain ⟨⟨⟨⟨htm, hall⟩, hlen⟩, htil⟩, hcnt⟩ := hc
          have hx8 : x < 8 := by omega
          have hy8 : y < 8 := by omega
          have hreg := rectR_ok (sideN i : Nat) (sideN i : Nat)
          have hreg2 : regOk (rectR 2 3) = true := rectR_ok 2 3
          have hreg3 : regOk (rectR 3 3) = true := rectR_ok 3 3
          have HX := Lib.hid (And.intro hx8 hy8)
          have Hall := Lib.hid hall
          have Htil := Lib.hid htil
          have Hcnt := Lib.hid hcnt
          have Hlen := Lib.hid hlen
          have Hrl := Lib.hid (show (rectR (sideN i : Nat) (sideN i : Nat)).length ≤ 1048576 by have := (regOk_iff.1 hreg).1; omega)
          have Hreg := Lib.hid hreg
          clear hall htil hcnt hlen hreg hx8 hy8
          go_wp2_with (go_at_call 38; refine (TileMissing_i (i : Int) (x : Int) (y : Int) _).mono ?_; rintro e w1 ⟨v1, rfl, o1, hb1⟩; rw [htm]; obtain ⟨⟨A1, c1, rfl⟩, _⟩ := id o1; have T1 := Lib.hid o1.rd; clear o1; replace H := H.bel hb1; replace Hc := H.c2; replace hB := bl_trans hB hb1; clear hb1)
          go_cut [9, 10] from 39 to 46 (fun s9 s10 wx => ∃ g B3 d3, s9 = .pointer (some ⟨g, 0, none⟩) ∧ s10 = .bool true ∧ Blk wx g 31 [.slice B3 8 d3] ∧ RdI wx B3 (cornReg i x y) ∧ Below w1.heap.size w1 wx)
          case first =>
            have HcA := (H.alloc (.cells #[.slice none 0 0] 31)).c2
            go_region_with (first | (go_at_call 25; with_reducible refine (Rectangle_i (sideN i : Nat) (sideN i : Nat) w1.drew).mono ?_; rintro e w2 ⟨A2, c2, rfl, o2, hb2⟩; have F2 := Lib.hid o2.rd; have F2b := Lib.hid (o2.rd.below (Below.alloc (Below.refl _ _) (Nat.le_refl _) (.cells #[.slice none 0 0] 31))); clear o2; have hW := bl_trans (bl_drew (Below.refl _ _)) hb2; replace H := H.bel hW; replace Hc := H.c2; have Hcb := (H.alloc (.cells #[.slice none 0 0] 31)).c2; have hs12 := hW.size; clear hb2) | (go_at_call 25; with_reducible refine (Rectangle_i (sideN i : Nat) (sideN i : Nat) (w1.alloc (.cells #[.slice none 0 0] 31)).drew).mono ?_; rintro e w2 ⟨A2, c2, rfl, o2, hb2⟩; have F2 := Lib.hid o2.rd; have F2b := Lib.hid (o2.rd.below (Below.alloc (Below.refl _ _) (Nat.le_refl _) (.cells #[.slice none 0 0] 31))); clear o2; have hW := bl_trans (bl_drew (Below.alloc (Below.refl _ _) (Nat.le_refl _) (.cells #[.slice none 0 0] 31))) hb2; replace H := H.bel hW; replace Hc := H.c2; have Hcb := (H.alloc (.cells #[.slice none 0 0] 31)).c2; have hs12 := hW.size; have Z := (Blk.new w1 31 [.slice none 0 0]).drew.bel hb2; have hZ : w1.heap.size ≤ w1.heap.size := Nat.le_refl _; clear hb2) | (go_at_call 39; with_reducible refine (WithCell_s A2 c2 _ x y HX.out.1 HX.out.2 w2 Hreg.out F2.out).mono ?_; rintro e w3 ⟨B3, d3, rfl, o3, hb3⟩; have F3 := Lib.hid o3; clear o3; have hb3' := Lib.hid hb3; replace hW := bl_trans (bl_trans hW (Below.refl _ _)) hb3; replace H := H.bel (bl_trans (Below.refl _ _) hb3); replace Hc := H.c2; (try (have Z1 := Z.bel hb3; have Zc := Z1.c1; have Zf := Z1.frozen 0)); clear hb3) | (go_at_call 39; with_reducible refine (WithCell_s A2 c2 _ x y HX.out.1 HX.out.2 (w2.alloc (.cells #[.slice none 0 0] 31)) Hreg.out F2b.out).mono ?_; rintro e w3 ⟨B3, d3, rfl, o3, hb3⟩; have F3 := Lib.hid o3; clear o3; have hb3' := Lib.hid hb3; replace hW := bl_trans (bl_trans hW (Below.alloc (Below.refl _ _) (Nat.le_refl _) (.cells #[.slice none 0 0] 31))) hb3; replace H := H.bel (bl_trans (Below.alloc (Below.refl _ _) (Nat.le_refl _) (.cells #[.slice none 0 0] 31)) hb3); replace Hc := H.c2; have Z1 := (Blk.new w2 31 [.slice none 0 0]).bel hb3; have Zc := Z1.c1; have Zf := Z1.frozen 0; clear hb3))
            all_goals (go_wp2_with fail; go_meet; first
              | exact ⟨w3.heap.size, B3, d3, rfl, rfl, Blk.new w3 _ _, F3.out.rd.below (Below.alloc (Below.refl _ _) (Nat.le_refl _) _), hW.alloc hW.size _⟩
              | exact ⟨w2.heap.size, B3, d3, rfl, rfl, Z1.set_ 0 _, (F3.out.set_ (p := ⟨w2.heap.size, 0, none⟩) (by simp) _).rd, bl_set hW (p := ⟨w2.heap.size, 0, none⟩) (by simpa using hs12) _⟩
              | exact ⟨w1.heap.size, B3, d3, rfl, rfl, Z1.set_ 0 _, (F3.out.set_ (p := ⟨w1.heap.size, 0, none⟩) (by have := Z.lt; simpa using this) _).rd, bl_set hW (p := ⟨w1.heap.size, 0, none⟩) (Nat.le_refl _) _⟩)
          case rest =>
            obtain ⟨g, B3, d3, rfl, rfl, G, hR, hW⟩ := hcut
            replace hB := bl_trans hB hW
            have hT := T1.out.below hW
            have Gc := G.c1
            have hRl : (cornReg i x y).length = 8 := by rw [cornReg, withC, List.length_set, padR_len (regOk_iff.1 Hreg.out).1]
            have HR := Lib.hid hR
            have HT := Lib.hid hT
            have HRl := Lib.hid hRl
            clear hR hT T1 H Hc hW hRl
            obtain ⟨n, hn⟩ : ∃ n, n = (tmL (i : Int) (x : Int) (y : Int)).length := ⟨_, rfl⟩
            have hn64 : n ≤ 64 := by rw [hn]; exact tmL_len _ _ _
            have HN := Lib.hid hn
            rw [← hn]
            clear hn
            go_wp2_with fail
            go_loopw [11] (fun q wr => ∃ j : Nat, j ≤ n ∧ q = .int .i64 j ∧ Hid (RdT wr A1 (tmL (i : Int) (x : Int) (y : Int))) ∧ Hid (RdI wr B3 (cornReg i x y)) ∧ Blk wr g 31 [.slice B3 8 d3] ∧ Below w.heap.size w wr) (fun q _ => n - (intOf q).toNat)
            case atStart => exact ⟨0, by omega, rfl, HT, HR, G, hB⟩
            case round =>
              obtain ⟨j, hj, rfl, HT2, HR2, G2, hB2⟩ := hrel
              clear HT HR G hB Gc
              by_cases hlt : j < n
              · obtain ⟨b, off, cx, cy, cz, rfl, hbl, hcx, _, _, _, _, hd1, hd2, hd3⟩ := HT2.out.at_ (k := j) (by rw [← HN.out]; exact hlt)
                have hme := List.all_eq_true.1 Hall.out _ (List.mem_of_getElem? hcx)
                simp only [Bool.and_eq_true, beq_iff_eq] at hme
                obtain ⟨hm1, hm2⟩ := hme
                have hmm2 := Lib.hid hm2
                clear hcx hm2
                go_wp2_with (first | (go_at_call 40; refine (CornerOk_i cx cy cz _).mono ?_; rintro e w4 ⟨rfl, hb4⟩; rw [hm1]; replace hd1 := (hb4.cell (p := ⟨b, off + j * 3, none⟩) hbl).trans hd1; replace hd2 := (hb4.cell (p := ⟨b, off + j * 3 + 1, none⟩) hbl).trans hd2; replace hd3 := (hb4.cell (p := ⟨b, off + j * 3 + 2, none⟩) hbl).trans hd3; replace HT2 := Lib.hid (HT2.out.below hb4); replace HR2 := Lib.hid (HR2.out.below hb4); replace G2 := G2.bel hb4; replace hB2 := bl_trans hB2 hb4; clear hb4) | (go_at_call 41; refine (CornerCells_i cx cy cz _).mono ?_; rintro e w5 ⟨v5, rfl, o5, hb5⟩; obtain ⟨⟨A5, c5, rfl⟩, _⟩ := id o5; rw [hmm2.out]; replace HT2 := Lib.hid (HT2.out.below hb5); replace HR2 := Lib.hid (HR2.out.below hb5); replace G2 := G2.bel hb5; replace hB2 := bl_trans hB2 hb5; clear hb5 o5))
                go_roundw
                case rel => exact ⟨j + 1, by omega, by go_num, HT2, HR2, G2, hB2⟩
                case measure => simp [intOf]; omega
              · obtain rfl : j = n := by omega
                have Gc := G2.c1
                obtain ⟨t, ht⟩ : ∃ t : Nat, 3 * j = t := ⟨_, rfl⟩
                obtain ⟨m, hm⟩ : ∃ m : Nat, sideN i * sideN i = m := ⟨_, rfl⟩
                have hL := Hlen.out
                rw [← HN.out, ht, hm] at hL
                have hmi : ((sideN i : Nat) : Int) * ((sideN i : Nat) : Int) = (m : Int) := by rw [← hm]; push_cast; rfl
                have hm64 : m ≤ 64 := by rw [← hm]; exact Nat.mul_le_mul hs8 hs8
                have hm1 : 1 ≤ m := by omega
                have q9 : 3 * (j : Int) = (m : Int) - 1 := by omega
                have l8 : (8 : Nat) ≤ 1048576 := by decide
                have r23 := Lib.hid (show (rectR 2 3).length ≤ 1048576 by decide)
                have r33 := Lib.hid (show (rectR 3 3).length ≤ 1048576 by decide)
                clear hm ht hL
                obtain ⟨cc, hcc0⟩ : ∃ cc, cc = countCorners (cornReg i x y) := ⟨_, rfl⟩
                have hcc := Lib.hid hcc0
                have hq5 : 2 < i ∨ 1 ≤ cc := by have := Hcnt.out; rw [← hcc0] at this; simpa using this
                have hl8 := Lib.hid (show (cornReg i x y).length ≤ 1048576 by rw [HRl.out]; decide)
                have hjb : j ≤ 1048576 := by omega
                clear hcc0 l8 Gc
                rw [← HRl.out] at G2
                have Gc := G2.c1
                obtain ⟨R23, K23⟩ : ∃ R : List Int, Hid (countCorners R = 2 ∧ R.length ≤ 1048576 ∧ ∀ w, Calls Try.prog 25 #[.int .i64 2, .int .i64 3] w fun e w' => ∃ A c, e = .returned (.agg #[.slice A R.length c]) ∧ OwI w.heap.size w' (.slice A R.length c) R ∧ Below w.heap.size w w') := ⟨rectR 2 3, Lib.hid ⟨corn23, r23.out, fun w => Rectangle_i 2 3 w⟩⟩
                obtain ⟨R33, K33⟩ : ∃ R : List Int, Hid (countCorners R = 0 ∧ R.length ≤ 1048576 ∧ ∀ w, Calls Try.prog 25 #[.int .i64 3, .int .i64 3] w fun e w' => ∃ A c, e = .returned (.agg #[.slice A R.length c]) ∧ OwI w.heap.size w' (.slice A R.length c) R ∧ Below w.heap.size w w') := ⟨rectR 3 3, Lib.hid ⟨corn33, r33.out, fun w => Rectangle_i 3 3 w⟩⟩
                generalize cornReg i x y = CR at HR2 G2 Gc Htil Hcnt HRl hl8 hcc
                generalize tmL (i : Int) (x : Int) (y : Int) = TL at HT2 HN Htil Hlen Hall
                clear Hall Hlen Hcnt r23 r33 hreg2 hreg3 Hrl Hreg HX htm
                by_cases h2 : 2 < i
                · have q4 : decide ((i : Int) > 2) = true := decide_eq_true (by omega)
                  go_wp2_with (first | (go_at_call 42; refine (IsCornerTiling_i B3 d3 CR A1 j c1 TL _ hl8.out HN.out hjb HR2.out HT2.out).mono ?_; rintro e w6 ⟨rfl, hb6⟩; rw [Htil.out]; replace HT2 := Lib.hid (HT2.out.below (bl_trans (by go_grown) hb6)); replace HR2 := Lib.hid (HR2.out.below (bl_trans (by go_grown) hb6)); replace G2 := G2.bel (bl_trans (by go_grown) hb6); have Gc := G2.c1; replace hB2 := bl_trans (bl_trans hB2 (by go_grown)) hb6; clear hb6) | (go_at_call 25; with_reducible refine (K23.out.2.2 _).mono ?_; rintro e w7 ⟨A7, c7, rfl, o7, hb7⟩; have F7 := Lib.hid o7.rd; clear o7; replace HT2 := Lib.hid (HT2.out.below (bl_trans (by go_grown) hb7)); replace HR2 := Lib.hid (HR2.out.below (bl_trans (by go_grown) hb7)); replace G2 := G2.bel (bl_trans (by go_grown) hb7); have Gc := G2.c1; replace hB2 := bl_trans (bl_trans hB2 (by go_grown)) hb7; clear hb7) | (go_at_call 43; with_reducible refine (CountCorners_i A7 c7 R23 _ K23.out.2.1 F7.out).mono ?_; rintro e w8 ⟨rfl, hb8⟩; rw [K23.out.1]; replace HT2 := Lib.hid (HT2.out.below (bl_trans (by go_grown) hb8)); replace HR2 := Lib.hid (HR2.out.below (bl_trans (by go_grown) hb8)); replace G2 := G2.bel (bl_trans (by go_grown) hb8); have Gc := G2.c1; replace hB2 := bl_trans (bl_trans hB2 (by go_grown)) hb8; clear hb8) | (go_at_call 43; with_reducible refine (CountCorners_i B3 d3 CR _ hl8.out HR2.out).mono ?_; rintro e w9 ⟨rfl, hb9⟩; rw [← hcc.out]; replace HT2 := Lib.hid (HT2.out.below (bl_trans (by go_grown) hb9)); replace HR2 := Lib.hid (HR2.out.below (bl_trans (by go_grown) hb9)); replace G2 := G2.bel (bl_trans (by go_grown) hb9); have Gc := G2.c1; replace hB2 := bl_trans (bl_trans hB2 (by go_grown)) hb9; clear hb9) | (go_at_call 25; with_reducible refine (K33.out.2.2 _).mono ?_; rintro e w10 ⟨A10, c10, rfl, o10, hb10⟩; have F10 := Lib.hid o10.rd; clear o10; replace HT2 := Lib.hid (HT2.out.below (bl_trans (by go_grown) hb10)); replace HR2 := Lib.hid (HR2.out.below (bl_trans (by go_grown) hb10)); replace G2 := G2.bel (bl_trans (by go_grown) hb10); have Gc := G2.c1; replace hB2 := bl_trans (bl_trans hB2 (by go_grown)) hb10; clear hb10) | (go_at_call 43; with_reducible refine (CountCorners_i A10 c10 R33 _ K33.out.2.1 F10.out).mono ?_; rintro e w11 ⟨rfl, hb11⟩; rw [K33.out.1]; replace HT2 := Lib.hid (HT2.out.below (bl_trans (by go_grown) hb11)); replace HR2 := Lib.hid (HR2.out.below (bl_trans (by go_grown) hb11)); replace G2 := G2.bel (bl_trans (by go_grown) hb11); have Gc := G2.c1; replace hB2 := bl_trans (bl_trans hB2 (by go_grown)) hb11; clear hb11))
                  go_ret
                  exact ⟨rfl, hB2⟩
                · have q4 : decide ((i : Int) > 2) = false := decide_eq_false (by omega)
                  have q5 : decide (cc ≥ 1) = true := decide_eq_true (by omega)
                  go_wp2_with (first | (go_at_call 42; refine (IsCornerTiling_i B3 d3 CR A1 j c1 TL _ hl8.out HN.out hjb HR2.out HT2.out).mono ?_; rintro e w6 ⟨rfl, hb6⟩; rw [Htil.out]; replace HT2 := Lib.hid (HT2.out.below (bl_trans (by go_grown) hb6)); replace HR2 := Lib.hid (HR2.out.below (bl_trans (by go_grown) hb6)); replace G2 := G2.bel (bl_trans (by go_grown) hb6); have Gc := G2.c1; replace hB2 := bl_trans (bl_trans hB2 (by go_grown)) hb6; clear hb6) | (go_at_call 25; with_reducible refine (K23.out.2.2 _).mono ?_; rintro e w7 ⟨A7, c7, rfl, o7, hb7⟩; have F7 := Lib.hid o7.rd; clear o7; replace HT2 := Lib.hid (HT2.out.below (bl_trans (by go_grown) hb7)); replace HR2 := Lib.hid (HR2.out.below (bl_trans (by go_grown) hb7)); replace G2 := G2.bel (bl_trans (by go_grown) hb7); have Gc := G2.c1; replace hB2 := bl_trans (bl_trans hB2 (by go_grown)) hb7; clear hb7) | (go_at_call 43; with_reducible refine (CountCorners_i A7 c7 R23 _ K23.out.2.1 F7.out).mono ?_; rintro e w8 ⟨rfl, hb8⟩; rw [K23.out.1]; replace HT2 := Lib.hid (HT2.out.below (bl_trans (by go_grown) hb8)); replace HR2 := Lib.hid (HR2.out.below (bl_trans (by go_grown) hb8)); replace G2 := G2.bel (bl_trans (by go_grown) hb8); have Gc := G2.c1; replace hB2 := bl_trans (bl_trans hB2 (by go_grown)) hb8; clear hb8) | (go_at_call 43; with_reducible refine (CountCorners_i B3 d3 CR _ hl8.out HR2.out).mono ?_; rintro e w9 ⟨rfl, hb9⟩; rw [← hcc.out]; replace HT2 := Lib.hid (HT2.out.below (bl_trans (by go_grown) hb9)); replace HR2 := Lib.hid (HR2.out.below (bl_trans (by go_grown) hb9)); replace G2 := G2.bel (bl_trans (by go_grown) hb9); have Gc := G2.c1; replace hB2 := bl_trans (bl_trans hB2 (by go_grown)) hb9; clear hb9) | (go_at_call 25; with_reducible refine (K33.out.2.2 _).mono ?_; rintro e w10 ⟨A10, c10, rfl, o10, hb10⟩; have F10 := Lib.hid o10.rd; clear o10; replace HT2 := Lib.hid (HT2.out.below (bl_trans (by go_grown) hb10)); replace HR2 := Lib.hid (HR2.out.below (bl_trans (by go_grown) hb10)); replace G2 := G2.bel (bl_trans (by go_grown) hb10); have Gc := G2.c1; replace hB2 := bl_trans (bl_trans hB2 (by go_grown)) hb10; clear hb10) | (go_at_call 43; with_reducible refine (CountCorners_i A10 c10 R33 _ K33.out.2.1 F10.out).mono ?_; rintro e w11 ⟨rfl, hb11⟩; rw [K33.out.1]; replace HT2 := Lib.hid (HT2.out.below (bl_trans (by go_grown) hb11)); replace HR2 := Lib.hid (HR2.out.below (bl_trans (by go_grown) hb11)); replace G2 := G2.bel (bl_trans (by go_grown) hb11); have Gc := G2.c1; replace hB2 := bl_trans (bl_trans hB2 (by go_grown)) hb11; clear hb11))
                  go_ret
                  exact ⟨rfl, hB2⟩
end Go.Proofs.Ytdcjhfmkkcakhaa

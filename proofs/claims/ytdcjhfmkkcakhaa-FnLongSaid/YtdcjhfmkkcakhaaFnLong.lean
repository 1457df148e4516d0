/-
  The walk of the law FnLong: it returns true for all arguments; no condition.
-/
import Derived.Test.YtdcjhfmkkcakhaaLongP
import Derived.Test.YtdcjhfmkkcakhaaAt
import Derived.Deep.CutRange
namespace Go.Proofs.Ytdcjhfmkkcakhaa
open Go.ChangeShapes Go.WideShapes Go.ChangeAt Go.RowKit Go.Deep
set_option linter.unusedVariables false

theorem AreEven_N (A : Option Addr) (N c : Nat) (l : List Int) (w : World) (hN : N = l.length) (hl : N ≤ 1048576) (hr : RdI w A l) :
    Calls Try.prog 48 #[.slice A N c] w fun e w' => e = .returned (.bool (areEven l)) ∧ Below w.heap.size w w' := by
  subst hN; exact AreEven_i A c l w hl hr
set_option maxRecDepth 100000 in
set_option maxHeartbeats 4000000 in
theorem walk_FnLong (A0 : Option Addr) (c0 : Nat) (l0 : List (Int)) (w : World) (hr0 : RdB w A0 l0) (hl0 : l0.length ≤ maxLen) :
    Calls Try.prog 6 #[.slice A0 l0.length c0] w fun e w' => e = .returned (.bool true) ∧ Below w.heap.size w w' := by
  have hB := Below.refl w.heap.size w
  by_cases hbig : (l0.length : Int) > 1048576
  · have hq : decide ((l0.length : Int) > 1048576) = true := decide_eq_true hbig
    go_enter Try.func6, Try.ntmps6
    go_wp2_with (go_at_call 12; refine (big_any _ _ _ _ hl0).mono ?_; rintro e wn ⟨h1, rfl⟩; rw [hq] at h1; subst h1)
    go_ret
    exact ⟨rfl, hB⟩
  · have hq : decide ((l0.length : Int) > 1048576) = false := decide_eq_false hbig
    have hl : l0.length ≤ 1048576 := by omega
    obtain ⟨w00, hw6, hw⟩ := atB_mod hr0 0 6 (by decide)
    obtain ⟨h00, hh4, hh⟩ := atB_mod hr0 1 4 (by decide)
    obtain ⟨k0, hk3, hk⟩ := atB_mod hr0 2 3 (by decide)
    have hw' : (atB l0 0).tmod 6 = (w00 : Int) := hw
    have hh' : (atB l0 1).tmod 4 = (h00 : Int) := hh
    have hk' : (atB l0 2).tmod 3 = (k0 : Int) := hk
    obtain ⟨K, hK⟩ : ∃ K, K = k0 + 2 := ⟨_, rfl⟩
    obtain ⟨W, hW⟩ : ∃ W, W = w00 + 1 := ⟨_, rfl⟩
    obtain ⟨H, hH⟩ : ∃ H, H = h00 + 1 := ⟨_, rfl⟩
    have eK : (2 : Int) + (k0 : Int) = (K : Int) := by omega
    have eW : (1 : Int) + (w00 : Int) = (W : Int) := by omega
    have eH : (1 : Int) + (h00 : Int) = (H : Int) := by omega
    have hK2 : 2 ≤ K := by omega
    have hK4 : K ≤ 4 := by omega
    have hW1 : 1 ≤ W := by omega
    have hW6 : W ≤ 6 := by omega
    have hH1 : 1 ≤ H := by omega
    have hH4 : H ≤ 4 := by omega
    have hlong := long_facts hW1 hW6 hH1 hH4 hK2 hK4
    obtain ⟨n, hn⟩ : ∃ n, n = countLong (W : Int) (H : Int) (K : Int) := ⟨_, rfl⟩
    obtain ⟨C, hC⟩ : ∃ C, C = colorCounts (rectR (W : Int) (H : Int)) (K : Int) := ⟨_, rfl⟩
    obtain ⟨cb, hcb⟩ : ∃ cb, cb = canLong (W : Int) (H : Int) (K : Int) := ⟨_, rfl⟩
    obtain ⟨m, hm⟩ : ∃ m : Int, m = (W : Int) * (H : Int) := ⟨_, rfl⟩
    have hrng : ∀ x ∈ C, 0 ≤ x ∧ x ≤ 64 := by rw [hC]; exact colorCounts_rng _ _
    rw [← hn, ← hC, ← hcb, ← hm] at hlong
    obtain ⟨f1, f2, f3, f4, f5, f6⟩ := hlong
    have Hrng := Lib.hid hrng
    have F2 := Lib.hid f2
    have F3 := Lib.hid f3
    have F4 := Lib.hid f4
    have F5 := Lib.hid f5
    have F6 := Lib.hid f6
    have HN := Lib.hid hn
    have HCb := Lib.hid hcb
    have hmv : (W : Int) * (H : Int) = m := hm.symm
    have hok : longOk (W : Int) (H : Int) (K : Int) = true := longOk_iff.2 (by omega)
    have HOK := Lib.hid hok
    have hix : inB (W : Int) 1 8 = true := inB_true.2 ⟨by omega, by omega⟩
    have hiy : inB (H : Int) 1 8 = true := inB_true.2 ⟨by omega, by omega⟩
    have HI := Lib.hid (And.intro hix hiy)
    obtain ⟨L, K9⟩ : ∃ L : List Int, Hid (L.length ≤ 1048576 ∧ colorCounts L (K : Int) = C ∧ ∀ w, Calls Try.prog 25 #[.int .i64 (W : Int), .int .i64 (H : Int)] w fun e w' => ∃ A c, e = .returned (.agg #[.slice A L.length c]) ∧ OwI w.heap.size w' (.slice A L.length c) L ∧ Below w.heap.size w w') :=
      ⟨rectR (W : Int) (H : Int), Lib.hid ⟨by have := (regOk_iff.1 (rectR_ok (W : Int) (H : Int))).1; omega, hC.symm, fun w => Rectangle_i (W : Int) (H : Int) w⟩⟩
    have hm36 := mul6 (a := (W : Int)) (b := (H : Int)) (by omega) (by omega) (by omega) (by omega)
    rw [hmv] at hm36
    have hr0' := Lib.hid hr0
    clear hr0 hbig hk hw hh hK hW hH hn hC hcb hm hrng f2 f3 f4 f5 f6 hok hix hiy
    go_enter Try.func6, Try.ntmps6
    go_wp2_with (first | (go_at_call 12; refine (big_any _ _ _ _ hl0).mono ?_; rintro e wn ⟨h1, rfl⟩; rw [hq] at h1; subst h1) | (go_at_call 16; with_reducible refine (at_lit A0 c0 l0 0 0 rfl _ (by omega) hl hr0'.out).mono ?_; rintro e wn ⟨rfl, rfl⟩) | (go_at_call 16; with_reducible refine (at_lit A0 c0 l0 1 1 rfl _ (by omega) hl hr0'.out).mono ?_; rintro e wn ⟨rfl, rfl⟩) | (go_at_call 16; with_reducible refine (at_lit A0 c0 l0 2 2 rfl _ (by omega) hl hr0'.out).mono ?_; rintro e wn ⟨rfl, rfl⟩) | (go_at_call 44; refine (CountLong_i (W : Int) (H : Int) (K : Int) _).mono ?_; rintro e w1 ⟨rfl, hb1⟩; rw [← HN.out]; replace hB := bl_trans hB hb1; clear hb1) | (go_at_call 25; refine (K9.out.2.2 _).mono ?_; rintro e w2 ⟨A2, c2, rfl, o2, hb2⟩; have R2 := Lib.hid o2.rd; replace hB := bl_trans hB hb2; clear o2 hb2) | (go_at_call 45; refine (ColorCounts_i A2 c2 L (K : Int) _ K9.out.1 R2.out).mono ?_; rintro e w3 ⟨v3, rfl, o3, hb3⟩; rw [K9.out.2.1] at o3; obtain ⟨⟨A3, c3, rfl⟩, _⟩ := id o3; rw [F2.out] at o3 ⊢; have R3 := Lib.hid o3.rd; replace hB := bl_trans hB hb3; clear o3 hb3))
    go_loopw [8, 9] (fun s i wr => ∃ j : Nat, j ≤ K ∧ i = .int .i64 j ∧ s = .int .i64 (C.take j).sum ∧ w3 = wr) (fun _ i _ => K - (intOf i).toNat)
    case atStart => exact ⟨0, by omega, rfl, rfl, rfl⟩
    case round =>
      obtain ⟨j, hj, rfl, rfl, rfl⟩ := hrel
      have hsr := sum_rng (m := 64) (l := C.take j) (fun x hx => Hrng.out x (List.mem_of_mem_take hx))
      have hlj : (C.take j).length ≤ 4 := by rw [List.length_take]; omega
      by_cases hlt : j < K
      · obtain ⟨b, off, x, hA3, hbl, hx, _, _, hcx⟩ := R3.out.at_ (k := j) (by rw [F2.out]; exact hlt)
        subst hA3
        have hs2 := Lib.hid (sum_take hx)
        have hxr := Hrng.out x (List.mem_of_getElem? hx)
        obtain ⟨S, hS⟩ : ∃ S, S = (C.take j).sum := ⟨_, rfl⟩
        rw [← hS] at hs2 hsr ⊢
        clear hx hS
        go_wp2_with fail
        go_roundw
        case rel => exact ⟨j + 1, by omega, by go_num, by rw [hs2.out], by first | rfl | trivial⟩
        case measure => simp [intOf]; omega
      · obtain rfl : j = K := by omega
        have htk : (C.take j).sum = m := by rw [show C.take j = C by rw [← F2.out, List.take_length], F3.out]
        rw [htk]
        have hmm : (m == m) = true := by simp
        have hnn : (n == n) = true := by simp
        have hcc : (cb == cb) = true := by simp
        have hB2 := Lib.hid hB
        clear hsr hlj htk hB
        have hz : (n == 0) = true ∨ ((n == 0) = false ∧ areEven C = true) := by
          by_cases h0 : n = 0
          · exact .inl (by simp [h0])
          · exact .inr ⟨by simp [h0], F4.out.resolve_left h0⟩
        have hk2 : decide ((j : Int) > 2) = true ∨ (decide ((j : Int) > 2) = false ∧ cntT (rectR (W : Int) (H : Int)) = n) := by
          by_cases h0 : 2 < j
          · exact .inl (decide_eq_true (by omega))
          · exact .inr ⟨decide_eq_false (by omega), F6.out.resolve_left h0⟩
        rcases hz with z1 | ⟨z1, z2⟩ <;> rcases hk2 with k1 | ⟨k1, k2⟩
        all_goals try (have Z2 := Lib.hid z2; clear z2)
        all_goals try (have K2 := Lib.hid k2; clear k2)
        all_goals (go_wp2_with (first | (go_at_call 46; refine (LongOk_i (W : Int) (H : Int) (j : Int) _).mono ?_; rintro e w4 ⟨rfl, rfl⟩; rw [HOK.out]) | (go_at_call 47; refine (CanLong_i (W : Int) (H : Int) (j : Int) _).mono ?_; rintro e w5 ⟨rfl, rfl⟩; rw [← HCb.out]) | (go_at_call 48; refine (AreEven_N A3 j c3 C _ F2.out.symm (by omega) R3.out).mono ?_; rintro e w6 ⟨rfl, hb6⟩; rw [Z2.out]; replace hB2 := Lib.hid (bl_trans hB2.out hb6); clear hb6) | (go_at_call 44; refine (CountLong_i (H : Int) (W : Int) (j : Int) _).mono ?_; rintro e w7 ⟨rfl, hb7⟩; rw [F5.out]; replace hB2 := Lib.hid (bl_trans hB2.out hb7); clear hb7) | (go_at_call 49; refine (RectangleCount_s (W : Int) (H : Int) _ HI.out.1 HI.out.2 n K2.out).mono ?_; rintro e w8 ⟨rfl, hb8⟩; replace hB2 := Lib.hid (bl_trans hB2.out hb8); clear hb8)))
        all_goals go_ret
        all_goals exact ⟨rfl, hB2.out⟩
end Go.Proofs.Ytdcjhfmkkcakhaa

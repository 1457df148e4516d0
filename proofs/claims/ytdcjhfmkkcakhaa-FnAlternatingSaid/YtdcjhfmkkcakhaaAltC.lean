/-
  Contracts of the program's factorial, AlternatingCount, CountMinus, WeightedCount, InversionsOf: what each returns, as a plain function; small matrices only.
-/
import Derived.Test.YtdcjhfmkkcakhaaAcS
import Derived.Test.YtdcjhfmkkcakhaaAlt
import Derived.BigQuiet
namespace Go.Proofs.Ytdcjhfmkkcakhaa
open Go.ChangeShapes Go.WideShapes Go.ChangeAt Go.RowKit Go.Deep
set_option linter.unusedVariables false

def fac : Nat → Nat
  | 0 => 1
  | k + 1 => fac k * (k + 1)
theorem facOk : ((List.range 14).all fun n => decide (1 ≤ fac n) && decide (fac n ≤ 10000000000)) = true := by decide +kernel
theorem fac_b {n : Nat} (h : n ≤ 13) : 1 ≤ fac n ∧ fac n ≤ 10000000000 := by
  have := List.all_eq_true.1 facOk n (List.mem_range.2 (by omega))
  simpa using this
def stI (n k : Nat) (s : Nat × Nat) : Nat × Nat :=
  (s.1 / Nat.gcd s.1 (fac (n + k) / Nat.gcd (fac (3 * k + 1)) (fac (n + k))) * (fac (3 * k + 1) / Nat.gcd (fac (3 * k + 1)) (fac (n + k)) / Nat.gcd (fac (3 * k + 1) / Nat.gcd (fac (3 * k + 1)) (fac (n + k))) s.2),
   s.2 / Nat.gcd (fac (3 * k + 1) / Nat.gcd (fac (3 * k + 1)) (fac (n + k))) s.2 * (fac (n + k) / Nat.gcd (fac (3 * k + 1)) (fac (n + k)) / Nat.gcd s.1 (fac (n + k) / Nat.gcd (fac (3 * k + 1)) (fac (n + k)))))
def acI (n : Nat) : Nat → Nat × Nat
  | 0 => (1, 1)
  | k + 1 => stI n k (acI n k)
theorem acI_ok : ((List.range 6).all fun n => ((List.range (n + 1)).all fun k => okP (acI n k)) && decide ((acI n n).1 / (acI n n).2 = acS n)) = true := by decide +kernel
theorem acI_b {n k : Nat} (hn : n ≤ 5) (hk : k ≤ n) : (1 ≤ (acI n k).1 ∧ (acI n k).1 ≤ 10000000000000) ∧ 1 ≤ (acI n k).2 ∧ (acI n k).2 ≤ 10000000000000 := by
  have h := List.all_eq_true.1 acI_ok n (List.mem_range.2 (by omega))
  rw [Bool.and_eq_true] at h
  have := List.all_eq_true.1 h.1 k (List.mem_range.2 (by omega))
  simp only [okP, Bool.and_eq_true, decide_eq_true_eq] at this
  omega
theorem acI_eq {n : Nat} (hn : n ≤ 5) : (acI n n).1 / (acI n n).2 = acS n := by
  have h := List.all_eq_true.1 acI_ok n (List.mem_range.2 (by omega))
  rw [Bool.and_eq_true, decide_eq_true_eq] at h
  exact h.2
def cmR (r : List Int) : Nat := r.countP fun x => x == -1
theorem cmR_cons (x : Int) (r : List Int) : cmR (x :: r) = cmR r + if x = -1 then 1 else 0 := by
  unfold cmR; rw [List.countP_cons]; simp
def cmL : List (List Int) → Nat
  | [] => 0
  | r :: m => cmR r + cmL m
def wcL : List (List (List Int)) → Nat
  | [] => 0
  | m :: l => 2 ^ cmL m + wcL l
set_option maxHeartbeats 1000000 in
theorem factorial_any (n : Nat) (h1 : 1 ≤ n) (h13 : n ≤ 13) (w : World) :
    Calls Try.prog 134 #[.int .i64 (n : Int)] w fun e w' => e = .returned (.int .i64 (fac n : Nat)) ∧ Below w.heap.size w w' := by
  go_enter Try.func134, Try.ntmps134
  go_wp2_with fail
  go_loopw [3, 4] (fun p q wr => ∃ (j x : Nat), j + 1 ≤ n ∧ q = .int .i64 ((j : Int) + 2) ∧ p = .int .i64 (x : Int) ∧ Hid (x = fac (j + 1)) ∧ Below w.heap.size w wr) (fun _ q _ => n + 2 - (intOf q).toNat)
  case atStart => exact ⟨0, 1, h1, by simp, rfl, Lib.hid rfl, Below.refl _ _⟩
  case round =>
    obtain ⟨j, x, hj, rfl, rfl, hx, hB⟩ := hrel
    by_cases hlt : j + 1 < n
    · have q1 : decide ((j : Int) + 2 ≤ (n : Int)) = true := decide_eq_true (by omega)
      have b2 := (fac_b (n := j + 2) (by omega)).2
      obtain ⟨x2, hx2⟩ : ∃ x2 : Nat, x2 = x * (j + 2) := ⟨_, rfl⟩
      have hx2i : (x : Int) * ((j : Int) + 2) = (x2 : Int) := by rw [hx2]; push_cast; rfl
      have hx3 : x2 = fac (j + 2) := by rw [hx2, hx.out]; rfl
      have hx2b : x2 ≤ 10000000000 := by omega
      have HX := Lib.hid hx3
      clear hx2 hx3 b2 hx
      go_wp2_with fail
      go_roundw
      case rel => exact ⟨j + 1, x2, by omega, by go_num, rfl, HX, hB⟩
      case measure => simp [intOf]; omega
    · have q1 : decide ((j : Int) + 2 ≤ (n : Int)) = false := decide_eq_false (by omega)
      have HX := Lib.hid (show x = fac n by rw [hx.out]; congr 1; omega)
      clear hx
      go_wp2_with fail
      go_ret
      exact ⟨ret_int (by rw [← HX.out]), hB⟩
set_option maxRecDepth 100000 in
set_option maxHeartbeats 4000000 in
theorem AlternatingCount_i (n : Nat) (h1 : 1 ≤ n) (h5 : n ≤ 5) (w : World) :
    Calls Try.prog 52 #[.int .i64 (n : Int)] w fun e w' => e = .returned (.int .i64 (acS n : Nat)) ∧ Below w.heap.size w w' := by
  have hin : inB (n : Int) 1 5 = true := inB_true.2 ⟨by omega, by omega⟩
  go_enter Try.func52, Try.ntmps52
  go_wp2_with (go_at_call 89; refine (within_any _ _ _ _).mono ?_; rintro e wn ⟨rfl, rfl⟩)
  go_loopw [3, 4, 15] (fun p q r wr => ∃ (k x y : Nat), k ≤ n ∧ r = .int .i64 (k : Int) ∧ p = .int .i64 (x : Int) ∧ q = .int .i64 (y : Int) ∧ Hid ((x, y) = acI n k) ∧ Below w.heap.size w wr) (fun _ _ r _ => n - (intOf r).toNat)
  case atStart => exact ⟨0, 1, 1, by omega, rfl, rfl, rfl, Lib.hid rfl, Below.refl _ _⟩
  case round =>
    obtain ⟨k, x, y, hk, rfl, rfl, rfl, hxy, hB⟩ := hrel
    have bd := acI_b h5 hk
    rw [← hxy.out] at bd
    have bx1 : 1 ≤ x := bd.1.1
    have bx2 : x ≤ 10000000000000 := bd.1.2
    have by1 : 1 ≤ y := bd.2.1
    have by2 : y ≤ 10000000000000 := bd.2.2
    clear bd
    by_cases hlt : k < n
    · have bd2 := acI_b (k := k + 1) h5 hlt
      rw [acI, ← hxy.out] at bd2
      obtain ⟨T, hT⟩ : ∃ T : Nat, T = 3 * k + 1 := ⟨_, rfl⟩
      obtain ⟨U, hU⟩ : ∃ U : Nat, U = n + k := ⟨_, rfl⟩
      have hTi : 3 * (k : Int) + 1 = (T : Int) := by omega
      have hUi : (n : Int) + (k : Int) = (U : Int) := by omega
      have hTb : 1 ≤ T ∧ T ≤ 13 := by omega
      have hUb : 1 ≤ U ∧ U ≤ 13 := by omega
      have bT := fac_b hTb.2
      have bU := fac_b hUb.2
      obtain ⟨a0, ha0⟩ : ∃ a0, a0 = fac T := ⟨_, rfl⟩
      obtain ⟨b0, hb0⟩ : ∃ b0, b0 = fac U := ⟨_, rfl⟩
      rw [← ha0] at bT
      rw [← hb0] at bU
      obtain ⟨p, hp⟩ : ∃ p, p = Nat.gcd a0 b0 := ⟨_, rfl⟩
      have hp1 : 1 ≤ p := by rw [hp]; exact Nat.gcd_pos_of_pos_left _ bT.1
      have qa := quo_nat (x := a0) hp1 (by omega)
      have qb := quo_nat (x := b0) hp1 (by omega)
      obtain ⟨a, ha⟩ : ∃ a, a = a0 / p := ⟨_, rfl⟩
      obtain ⟨b, hb⟩ : ∃ b, b = b0 / p := ⟨_, rfl⟩
      have hal : a ≤ 10000000000 := by rw [ha]; exact Nat.le_trans (Nat.div_le_self _ _) bT.2
      have hbl : b ≤ 10000000000 := by rw [hb]; exact Nat.le_trans (Nat.div_le_self _ _) bU.2
      rw [← ha] at qa
      rw [← hb] at qb
      obtain ⟨q, hq⟩ : ∃ q, q = Nat.gcd a y := ⟨_, rfl⟩
      obtain ⟨r, hr⟩ : ∃ r, r = Nat.gcd x b := ⟨_, rfl⟩
      have hq1 : 1 ≤ q := by rw [hq]; exact Nat.gcd_pos_of_pos_right _ by1
      have hr1 : 1 ≤ r := by rw [hr]; exact Nat.gcd_pos_of_pos_left _ bx1
      have e1 := quo_nat (x := x) hr1 (by omega)
      have e2 := quo_nat (x := a) hq1 (by omega)
      have e3 := quo_nat (x := y) hq1 (by omega)
      have e4 := quo_nat (x := b) hr1 (by omega)
      have hst : stI n k (x, y) = (x / r * (a / q), y / q * (b / r)) := by
        unfold stI
        rw [← hT, ← hU, ← ha0, ← hb0, ← hp, ← ha, ← hb, ← hq, ← hr]
      rw [hst] at bd2
      obtain ⟨u1, hu1⟩ : ∃ u, u = x / r := ⟨_, rfl⟩
      obtain ⟨u2, hu2⟩ : ∃ u, u = a / q := ⟨_, rfl⟩
      obtain ⟨u3, hu3⟩ : ∃ u, u = y / q := ⟨_, rfl⟩
      obtain ⟨u4, hu4⟩ : ∃ u, u = b / r := ⟨_, rfl⟩
      rw [← hu1] at e1
      rw [← hu2] at e2
      rw [← hu3] at e3
      rw [← hu4] at e4
      rw [← hu1, ← hu2, ← hu3, ← hu4] at hst bd2
      obtain ⟨z1, hz1⟩ : ∃ z, z = u1 * u2 := ⟨_, rfl⟩
      obtain ⟨z2, hz2⟩ : ∃ z, z = u3 * u4 := ⟨_, rfl⟩
      rw [← hz1, ← hz2] at hst bd2
      have m1 : (u1 : Int) * (u2 : Int) = (z1 : Int) := by rw [hz1]; push_cast; rfl
      have m2 : (u3 : Int) * (u4 : Int) = (z2 : Int) := by rw [hz2]; push_cast; rfl
      have Hst := Lib.hid (show (z1, z2) = acI n (k + 1) by rw [acI, ← hxy.out, hst])
      have z1b : z1 ≤ 10000000000000 := bd2.1.2
      have z2b : z2 ≤ 10000000000000 := bd2.2.2
      have Ha0 := Lib.hid ha0
      have Hb0 := Lib.hid hb0
      have Hp := Lib.hid hp
      have Hq := Lib.hid hq
      have Hr := Lib.hid hr
      have pz := qa.2.2
      have qz := e2.2.2
      have rz := e1.2.2
      have qa1 := qa.1
      have qb1 := qb.1
      have e11 := e1.1
      have e21 := e2.1
      have e31 := e3.1
      have e41 := e4.1
      have f1 := e1.2.1
      have f2 := e2.2.1
      have f3 := e3.2.1
      have f4 := e4.2.1
      have ga := hTb.1
      have gb := hTb.2
      have gc := hUb.1
      have gd := hUb.2
      have ba := bT.2
      have bb := bU.2
      clear hT hU ha0 hb0 hp ha hb hq hr hu1 hu2 hu3 hu4 hz1 hz2 hst bd2 hxy qa qb e1 e2 e3 e4 hTb hUb bT bU
      go_wp2_with fail
      (refine (factorial_any T ga gb _).mono ?_; rintro e w1 ⟨rfl, hb1⟩; rw [← Ha0.out]; replace hB := bl_trans hB hb1; clear hb1)
      go_wp2_with fail
      (refine (factorial_any U gc gd _).mono ?_; rintro e w2 ⟨rfl, hb2⟩; rw [← Hb0.out]; replace hB := bl_trans hB hb2; clear hb2)
      go_wp2_with fail
      (refine (gcd_any a0 b0 _ (by omega) (by omega)).mono ?_; rintro e w3 ⟨rfl, hb3⟩; rw [← Hp.out]; replace hB := bl_trans hB hb3; clear hb3)
      go_wp2_with fail
      go_quiet (fail)
      go_wp2_with fail
      (refine (gcd_any a y _ (by omega) (by omega)).mono ?_; rintro e w4 ⟨rfl, hb4⟩; rw [← Hq.out]; replace hB := bl_trans (bl_drewN hB _) hb4; clear hb4)
      go_wp2_with fail
      (refine (gcd_any x b _ (by omega) (by omega)).mono ?_; rintro e w5 ⟨rfl, hb5⟩; rw [← Hr.out]; replace hB := bl_trans hB hb5; clear hb5)
      go_wp2_with fail
      go_quiet (fail)
      go_wp2_with fail
      go_roundw
      case rel => exact ⟨k + 1, z1, z2, by omega, by go_num, rfl, rfl, Hst, bl_drewN hB _⟩
      case measure => simp [intOf]; omega
    · obtain rfl : k = n := by omega
      have hres := Lib.hid (show x / y = acS k by rw [← acI_eq h5, ← hxy.out])
      have q1 := quo_nat (x := x) by1 (by omega)
      have q1a := q1.1
      have hz := q1.2.2
      have hq := q1.2.1
      obtain ⟨u, hu⟩ : ∃ u, u = x / y := ⟨_, rfl⟩
      rw [← hu] at q1a hq hres
      clear q1 hu
      go_wp2_with fail
      go_ret
      exact ⟨ret_int (by rw [← hres.out]), hB⟩
set_option maxHeartbeats 2000000 in
theorem CountMinus_i (A : Option Addr) (N c : Nat) (m : List (List Int)) (w : World) (hN : N = m.length) (hl : N ≤ 1048576) (hll : ∀ r ∈ m, r.length ≤ 1048576) (hs : cmL m ≤ 1048576) (hr : RdII w A m) :
    Calls Try.prog 55 #[.slice A N c] w fun e w' => e = .returned (.int .i64 (cmL m : Nat)) ∧ Below w.heap.size w w' := by
  have HN := Lib.hid hN
  have Hr := Lib.hid hr
  have Hll := Lib.hid hll
  clear hN hr hll
  go_enter Try.func55, Try.ntmps55
  go_wp2_with fail
  go_loopw [3, 10] (fun p q wr => ∃ (k s : Nat), k ≤ N ∧ q = .int .i64 (k : Int) ∧ p = .int .i64 (s : Int) ∧ Hid (s + cmL (m.drop k) = cmL m) ∧ Below w.heap.size w wr) (fun _ q _ => N - (intOf q).toNat)
  case atStart => exact ⟨0, 0, by omega, rfl, rfl, Lib.hid (by simp), Below.refl _ _⟩
  case round =>
    obtain ⟨k, s, hk, rfl, rfl, hs1, hB⟩ := hrel
    by_cases hlt : k < N
    · obtain ⟨b1, o1, row, A1, c1, rfl, hbl, hx, hd, hrw, hc⟩ := (Hr.out.below hB).at_ (k := k) (by rw [← HN.out]; exact hlt)
      have hrl := Hll.out row (List.mem_of_getElem? hx)
      have hs2 := hs1.out
      rw [hd, cmL] at hs2
      obtain ⟨R, hR⟩ : ∃ R, R = row.length := ⟨_, rfl⟩
      rw [← hR] at hc hrl
      have HR := Lib.hid hR
      have Hrw := Lib.hid hrw
      have HB := Lib.hid hB
      have Hs2 := Lib.hid hs2
      clear hx hd hs1 hs2 hR hrw hB
      obtain ⟨wo, rfl⟩ : ∃ wo : World, wo = wr := ⟨_, rfl⟩
      go_wp2_with fail
      go_loopw [3, 16] (fun p q wr => ∃ (j t : Nat), j ≤ R ∧ q = .int .i64 (j : Int) ∧ p = .int .i64 (t : Int) ∧ Hid (t + cmR (row.drop j) + cmL (m.drop (k + 1)) = cmL m) ∧ Below wo.heap.size wo wr) (fun _ q _ => R - (intOf q).toNat)
      case atStart => exact ⟨0, s, by omega, rfl, rfl, Lib.hid (by simpa [Nat.add_assoc] using Hs2.out), Below.refl _ _⟩
      case round =>
        obtain ⟨j, t, hj, rfl, rfl, ht, hb⟩ := hrel
        by_cases hlt2 : j < R
        · obtain ⟨b2, o2, x, rfl, hbl2, hx2, hd2, _, hc2⟩ := (Hrw.out.below hb).at_ (k := j) (by rw [← HR.out]; exact hlt2)
          have ht2 := ht.out
          rw [hd2, cmR_cons] at ht2
          clear hx2 hd2 ht
          by_cases he : x = -1
          · subst he
            rw [if_pos rfl] at ht2
            have ht3 := Lib.hid (show t + 1 + cmR (row.drop (j + 1)) + cmL (m.drop (k + 1)) = cmL m by omega)
            have htb : t ≤ 1048576 := by omega
            clear ht2
            go_wp2_with fail
            go_roundw
            case rel => exact ⟨j + 1, t + 1, by omega, by go_num, by go_num, ht3, hb⟩
            case measure => simp [intOf]; omega
          · rw [if_neg he] at ht2
            have hxe : (x == -1) = false := by simpa using he
            have ht3 := Lib.hid (show t + cmR (row.drop (j + 1)) + cmL (m.drop (k + 1)) = cmL m by omega)
            clear ht2 he
            go_wp2_with fail
            go_roundw
            case rel => exact ⟨j + 1, t, by omega, by go_num, rfl, ht3, hb⟩
            case measure => simp [intOf]; omega
        · obtain rfl : j = R := by omega
          have ht2 := ht.out
          rw [List.drop_eq_nil_of_le (by rw [← HR.out]; exact Nat.le_refl _)] at ht2
          have ht3 := Lib.hid (show t + cmL (m.drop (k + 1)) = cmL m by simpa [cmR] using ht2)
          clear ht ht2
          go_wp2_with fail
          go_roundw
          case rel => exact ⟨k + 1, t, by omega, by go_num, rfl, ht3, bl_trans HB.out hb⟩
          case measure => simp [intOf]; omega
    · obtain rfl : k = N := by omega
      have hs2 := hs1.out
      rw [List.drop_eq_nil_of_le (by rw [← HN.out]; exact Nat.le_refl _)] at hs2
      have Hs2 := Lib.hid (show s = cmL m by simpa [cmL] using hs2)
      clear hs1 hs2
      go_wp2_with fail
      go_ret
      exact ⟨ret_int (by rw [← Hs2.out]), hB⟩
end Go.Proofs.Ytdcjhfmkkcakhaa

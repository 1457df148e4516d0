/-
  InversionsOf of the program: what it returns, as a plain function; for square matrices of at most 4 rows whose signs alternate.
-/
import Derived.Test.YtdcjhfmkkcakhaaAltC
namespace Go.Proofs.Ytdcjhfmkkcakhaa
open Go.ChangeShapes Go.WideShapes Go.ChangeAt Go.RowKit Go.Deep
set_option linter.unusedVariables false

def eAt (m : List (List Int)) (i j : Nat) : Int := (((m[i]?).getD [])[j]?).getD 0
def sumN (f : Nat → Int) : Nat → Int
  | 0 => 0
  | n + 1 => sumN f n + f n
def invK (m : List (List Int)) (i j k : Nat) : Int := sumN (fun l => eAt m i j * eAt m k l) j
def invJ (m : List (List Int)) (i j t : Nat) : Int := sumN (fun t => invK m i j (i + 1 + t)) t
def invI (m : List (List Int)) (i j : Nat) : Int := sumN (fun j => invJ m i j (m.length - (i + 1))) j
def invM (m : List (List Int)) : Int := sumN (fun i => invI m i m.length) m.length
theorem eAt_eq {m : List (List Int)} {i j : Nat} {r : List Int} {x : Int} (h : m[i]? = some r) (h2 : r[j]? = some x) : eAt m i j = x := by
  unfold eAt; rw [h]; show (r[j]?).getD 0 = x; rw [h2]; rfl
theorem prod1 {x y : Int} (hx : -1 ≤ x ∧ x ≤ 1) (hy : -1 ≤ y ∧ y ≤ 1) : -1 ≤ x * y ∧ x * y ≤ 1 := by
  have h : x = -1 ∨ x = 0 ∨ x = 1 := by omega
  rcases h with rfl | rfl | rfl <;> omega
/-- a square matrix of small numbers -/
def Sq (m : List (List Int)) : Prop := m.length ≤ 4 ∧ (∀ r ∈ m, r.length = m.length) ∧ ∀ r ∈ m, ∀ x ∈ r, -1 ≤ x ∧ x ≤ 1
set_option maxRecDepth 100000 in
set_option maxHeartbeats 4000000 in
theorem InversionsOf_i (A : Option Addr) (N c : Nat) (m : List (List Int)) (w : World) (hN : N = m.length) (hsq : Sq m) (halt : altB m = true) (hr : RdII w A m) :
    Calls Try.prog 56 #[.slice A N c] w fun e w' => e = .returned (.int .i64 (invM m)) ∧ Below w.heap.size w w' := by
  obtain ⟨h4, hrow, hent⟩ := hsq
  have HN := Lib.hid hN
  have Hr := Lib.hid hr
  have Hrow := Lib.hid hrow
  have Hent := Lib.hid hent
  have Halt := Lib.hid halt
  have hN4 : N ≤ 4 := by omega
  have hll : ∀ r ∈ m, r.length ≤ 1048576 := fun r h => by rw [hrow r h]; omega
  have Hll := Lib.hid hll
  clear hN hr hrow hent h4 halt hll
  go_enter Try.func56, Try.ntmps56
  go_wp2_with fail
  (refine (IsAlternating_i A N c m _ HN.out (by omega) Hll.out Hr.out).mono ?_; rintro e w1 ⟨rfl, hB1⟩; rw [Halt.out]; have HB1 := Lib.hid hB1; clear hB1)
  go_wp2_with fail
  go_loopw [3, 13] (fun p q wr => ∃ (i : Nat) (s : Int), i ≤ N ∧ q = .int .i64 (i : Int) ∧ p = .int .i64 s ∧ Hid (s = sumN (fun i => invI m i m.length) i) ∧ (-(64 * (i : Int)) ≤ s ∧ s ≤ 64 * (i : Int)) ∧ Below w.heap.size w wr) (fun _ q _ => N - (intOf q).toNat)
  case atStart => exact ⟨0, 0, by omega, rfl, rfl, Lib.hid rfl, by omega, HB1.out⟩
  case round =>
    obtain ⟨i, s, hi, rfl, rfl, hs1, hbd, hB⟩ := hrel
    clear HB1
    by_cases hlt : i < N
    · have HB := Lib.hid hB
      clear hB
      go_wp2_with fail
      go_loopw [3, 18] (fun p q wr => ∃ (j : Nat) (u : Int), j ≤ N ∧ q = .int .i64 (j : Int) ∧ p = .int .i64 u ∧ Hid (u = s + invI m i j) ∧ (-(64 * (i : Int) + 16 * (j : Int)) ≤ u ∧ u ≤ 64 * (i : Int) + 16 * (j : Int)) ∧ Below w.heap.size w wr) (fun _ q _ => N - (intOf q).toNat)
      case atStart => exact ⟨0, s, by omega, rfl, rfl, Lib.hid (by simp [invI, sumN]), by omega, HB.out⟩
      case round =>
        obtain ⟨j, u, hj, rfl, rfl, hu1, hbd2, hB2⟩ := hrel
        clear HB
        by_cases hlt2 : j < N
        · have HB2 := Lib.hid hB2
          clear hB2
          go_wp2_with fail
          go_loopw [3, 6] (fun p q wr => ∃ (t : Nat) (v : Int), i + 1 + t ≤ N ∧ q = .int .i64 ((i + 1 + t : Nat) : Int) ∧ p = .int .i64 v ∧ Hid (v = u + invJ m i j t) ∧ (-(64 * (i : Int) + 16 * (j : Int) + 4 * ((i + 1 + t : Nat) : Int)) ≤ v ∧ v ≤ 64 * (i : Int) + 16 * (j : Int) + 4 * ((i + 1 + t : Nat) : Int)) ∧ Below w.heap.size w wr) (fun _ q _ => N - (intOf q).toNat)
          case atStart => exact ⟨0, u, by omega, by go_num, rfl, Lib.hid (by simp [invJ, sumN]), by omega, HB2.out⟩
          case round =>
            obtain ⟨t, v, ht, rfl, rfl, hv1, hbd3, hB3⟩ := hrel
            clear HB2
            obtain ⟨k, hk⟩ : ∃ k, k = i + 1 + t := ⟨_, rfl⟩
            rw [← hk] at ht hbd3 ⊢
            by_cases hlt3 : k < N
            · have HB3 := Lib.hid hB3
              have hki : i < k := by omega
              have Hk := Lib.hid hk
              clear hB3 hk
              go_wp2_with fail
              go_loopw [3, 30] (fun p q wr => ∃ (l : Nat) (x : Int), l ≤ j ∧ q = .int .i64 (l : Int) ∧ p = .int .i64 x ∧ Hid (x = v + sumN (fun l => eAt m i j * eAt m k l) l) ∧ (-(64 * (i : Int) + 16 * (j : Int) + 4 * (k : Int) + (l : Int)) ≤ x ∧ x ≤ 64 * (i : Int) + 16 * (j : Int) + 4 * (k : Int) + (l : Int)) ∧ Below w.heap.size w wr) (fun _ q _ => j - (intOf q).toNat)
              case atStart => exact ⟨0, v, by omega, rfl, rfl, Lib.hid (by simp [sumN]), by omega, HB3.out⟩
              case round =>
                obtain ⟨l, x, hl, rfl, rfl, hx1, hbd4, hB4⟩ := hrel
                clear HB3
                by_cases hlt4 : l < j
                · obtain ⟨b1, o1, r1, A1, c1, rfl, hb1, hr1, _, hrd1, hc1⟩ := (Hr.out.below hB4).at_ (k := i) (by rw [← HN.out]; exact hlt)
                  obtain ⟨b2, o2, r2, A2, c2, hA2, hb2, hr2, _, hrd2, hc2⟩ := (Hr.out.below hB4).at_ (k := k) (by rw [← HN.out]; exact hlt3)
                  injection hA2 with hA2
                  injection hA2 with hA2 hA3
                  subst hA2
                  subst hA3
                  have l1 : r1.length = N := by rw [Hrow.out r1 (List.mem_of_getElem? hr1), ← HN.out]
                  have l2 : r2.length = N := by rw [Hrow.out r2 (List.mem_of_getElem? hr2), ← HN.out]
                  rw [l1] at hc1
                  rw [l2] at hc2
                  obtain ⟨b3, o3, e1, rfl, hb3, he1, _, _, hc3⟩ := hrd1.at_ (k := j) (by omega)
                  obtain ⟨b4, o4, e2, rfl, hb4, he2, _, _, hc4⟩ := hrd2.at_ (k := l) (by omega)
                  have v1 := Hent.out r1 (List.mem_of_getElem? hr1) e1 (List.mem_of_getElem? he1)
                  have v2 := Hent.out r2 (List.mem_of_getElem? hr2) e2 (List.mem_of_getElem? he2)
                  have hp := prod1 v1 v2
                  obtain ⟨pr, hpr⟩ : ∃ pr, pr = e1 * e2 := ⟨_, rfl⟩
                  rw [← hpr] at hp
                  have hpe : eAt m i j * eAt m k l = pr := by rw [eAt_eq hr1 he1, eAt_eq hr2 he2, hpr]
                  have hpm : e1 * e2 = pr := hpr.symm
                  have Hx := Lib.hid (show x + pr = v + sumN (fun l => eAt m i j * eAt m k l) (l + 1) by rw [sumN, hx1.out, hpe]; omega)
                  have HB4 := Lib.hid hB4
                  have q1 := bq_cell hc1
                  have q2 := bq_cell hc2
                  have q3 := bq_cell hc3
                  have q4 := bq_cell hc4
                  have j1 : (i : Int) < (N : Int) := by omega
                  have j2 : (j : Int) < (N : Int) := by omega
                  have j3 : (k : Int) < (N : Int) := by omega
                  have j4 : (l : Int) < (N : Int) := by omega
                  clear hpr hpe hr1 hr2 he1 he2 hx1 hB4 l1 l2 hrd1 hrd2
                  go_wp2_with fail
                  (refine wp_region_quiet_bel (by kernel_rfl) (by kernel_rfl) ?_; (repeat (first | go_big_quiet_step (fail) | quiet_step (fail))); refine wpQuiet_nil ?_; intro wq hw0; obtain ⟨⟨_, hbq⟩, hw1⟩ := hw0; subst hw1; try dsimp only)
                  go_wp2_with fail
                  go_roundw
                  case rel => exact ⟨l + 1, x + pr, by omega, by go_num, by go_num, Hx, by omega, bl_trans HB4.out hbq⟩
                  case measure => simp [intOf]; omega
                · obtain rfl : l = j := by omega
                  have Hv := Lib.hid (show x = u + invJ m i l (t + 1) by rw [invJ, sumN, hx1.out, hv1.out, invJ, invK, ← Hk.out]; omega)
                  have Hk2 := Lib.hid (show k + 1 = i + 1 + (t + 1) by have := Hk.out; omega)
                  clear hx1 hv1
                  go_wp2_with fail
                  go_roundw
                  case rel => exact ⟨t + 1, x, by have := Hk2.out; omega, by rw [← Hk2.out]; go_num, rfl, Hv, by rw [← Hk2.out]; omega, hB4⟩
                  case measure => simp [intOf]; omega
            · obtain rfl : k = N := by omega
              have Hu := Lib.hid (show v = s + invI m i (j + 1) by rw [invI, sumN, hv1.out, hu1.out, invI, show m.length - (i + 1) = t by rw [← HN.out]; omega]; omega)
              clear hv1 hk
              go_wp2_with fail
              go_roundw
              case rel => exact ⟨j + 1, v, by omega, by go_num, rfl, Hu, by omega, hB3⟩
              case measure => simp [intOf]; omega
        · obtain rfl : j = N := by omega
          have Hs := Lib.hid (show u = sumN (fun i => invI m i m.length) (i + 1) by rw [sumN, hu1.out, hs1.out, ← HN.out])
          clear hu1 hs1
          go_wp2_with fail
          go_roundw
          case rel => exact ⟨i + 1, u, by omega, by go_num, rfl, Hs, by omega, hB2⟩
          case measure => simp [intOf]; omega
    · obtain rfl : i = N := by omega
      have Hs := Lib.hid (show s = invM m by rw [invM, hs1.out, ← HN.out])
      clear hs1
      go_wp2_with fail
      go_ret
      exact ⟨ret_int (by rw [← Hs.out]), hB⟩
end Go.Proofs.Ytdcjhfmkkcakhaa

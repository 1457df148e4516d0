/-
  AlternatingCount of the reference: what it returns, as a plain function; for 1 to 5 rows. Besides: the laws' sameInts.
-/
import Derived.Test.YtdcjhfmkkcakhaaGcd
import Derived.Test.YtdcjhfmkkcakhaaIn
import Derived.Test.YtdcjhfmkkcakhaaApp
namespace Go.Proofs.Ytdcjhfmkkcakhaa
open Go.ChangeShapes Go.WideShapes Go.ChangeAt Go.RowKit Go.Deep
set_option linter.unusedVariables false

def stT (s : Nat × Nat) (i : Nat) : Nat × Nat := (s.1 * i / Nat.gcd (s.1 * i) s.2, s.2 / Nat.gcd (s.1 * i) s.2)
def stB (s : Nat × Nat) (i : Nat) : Nat × Nat := (s.1 / Nat.gcd s.1 (s.2 * i), s.2 * i / Nat.gcd s.1 (s.2 * i))
def goT (s : Nat × Nat) : Nat → Nat × Nat
  | 0 => s
  | j + 1 => stT (goT s j) (j + 1)
def goB (s : Nat × Nat) : Nat → Nat × Nat
  | 0 => s
  | j + 1 => stB (goB s j) (j + 1)
def acP (n : Nat) : Nat → Nat × Nat
  | 0 => (1, 1)
  | k + 1 => goB (goT (acP n k) (3 * k + 1)) (n + k)
def acS (n : Nat) : Nat := (acP n n).1 / (acP n n).2
def okP (s : Nat × Nat) : Bool := decide (1 ≤ s.1) && decide (s.1 ≤ 10000000000000) && decide (1 ≤ s.2) && decide (s.2 ≤ 10000000000000)
theorem acOk : ((List.range 6).all fun n => (List.range n).all fun k => ((List.range (3 * k + 2)).all fun j => okP (goT (acP n k) j)) && ((List.range (n + k + 1)).all fun j => okP (goB (goT (acP n k) (3 * k + 1)) j))) = true := by decide +kernel
theorem acOkT {n k j : Nat} (hn : n ≤ 5) (hk : k < n) (hj : j ≤ 3 * k + 1) : (1 ≤ (goT (acP n k) j).1 ∧ (goT (acP n k) j).1 ≤ 10000000000000) ∧ 1 ≤ (goT (acP n k) j).2 ∧ (goT (acP n k) j).2 ≤ 10000000000000 := by
  have h := List.all_eq_true.1 (List.all_eq_true.1 acOk n (List.mem_range.2 (by omega))) k (List.mem_range.2 hk)
  rw [Bool.and_eq_true] at h
  have := List.all_eq_true.1 h.1 j (List.mem_range.2 (by omega))
  simp only [okP, Bool.and_eq_true, decide_eq_true_eq] at this
  omega
theorem acOkB {n k j : Nat} (hn : n ≤ 5) (hk : k < n) (hj : j ≤ n + k) : (1 ≤ (goB (goT (acP n k) (3 * k + 1)) j).1 ∧ (goB (goT (acP n k) (3 * k + 1)) j).1 ≤ 10000000000000) ∧ 1 ≤ (goB (goT (acP n k) (3 * k + 1)) j).2 ∧ (goB (goT (acP n k) (3 * k + 1)) j).2 ≤ 10000000000000 := by
  have h := List.all_eq_true.1 (List.all_eq_true.1 acOk n (List.mem_range.2 (by omega))) k (List.mem_range.2 hk)
  rw [Bool.and_eq_true] at h
  have := List.all_eq_true.1 h.2 j (List.mem_range.2 (by omega))
  simp only [okP, Bool.and_eq_true, decide_eq_true_eq] at this
  omega
theorem mul13 {x i : Nat} (hx : x ≤ 10000000000000) (hi : i ≤ 13) : x * i ≤ 130000000000000 := by
  have := Nat.mul_le_mul hx hi
  omega
theorem quo_nat {x g : Nat} (hg : 1 ≤ g) (hx : x ≤ 1000000000000000) : ((x : Int)).tdiv (g : Int) = ((x / g : Nat) : Int) ∧ x / g ≤ 1000000000000000 ∧ ¬ g = 0 :=
  ⟨by rw [Int.tdiv_eq_ediv_of_nonneg (by omega)]; push_cast; rfl, Nat.le_trans (Nat.div_le_self _ _) hx, by omega⟩
set_option maxRecDepth 100000 in
set_option maxHeartbeats 4000000 in
theorem AlternatingCount_s (n : Nat) (h1 : 1 ≤ n) (h5 : n ≤ 5) (w : World) :
    Calls Try.prog 67 #[.int .i64 (n : Int)] w fun e w' => e = .returned (.int .i64 (acS n : Nat)) ∧ Below w.heap.size w w' := by
  have hin : inB (n : Int) 1 5 = true := inB_true.2 ⟨by omega, by omega⟩
  go_enter Try.func67, Try.ntmps67
  go_wp2_with (go_at_call 128; refine (l01In_any _ _ _ _).mono ?_; rintro e wn ⟨rfl, rfl⟩)
  go_loopw [3, 4, 5] (fun p q r wr => ∃ (k x y : Nat), k ≤ n ∧ r = .int .i64 (k : Int) ∧ p = .int .i64 (x : Int) ∧ q = .int .i64 (y : Int) ∧ Hid ((x, y) = acP n k) ∧ Below w.heap.size w wr) (fun _ _ r _ => n - (intOf r).toNat)
  case atStart => exact ⟨0, 1, 1, by omega, rfl, rfl, rfl, Lib.hid rfl, Below.refl _ _⟩
  case round =>
    obtain ⟨k, x, y, hk, rfl, rfl, rfl, hxy, hB⟩ := hrel
    by_cases hlt : k < n
    · go_wp2_with fail
      go_loopw [3, 4, 6] (fun p q r wr => ∃ (j x y : Nat), j ≤ 3 * k + 1 ∧ r = .int .i64 ((j : Int) + 1) ∧ p = .int .i64 (x : Int) ∧ q = .int .i64 (y : Int) ∧ Hid ((x, y) = goT (acP n k) j) ∧ Below w.heap.size w wr) (fun _ _ r _ => 3 * k + 2 - (intOf r).toNat)
      case atStart => exact ⟨0, x, y, by omega, by simp, rfl, rfl, Lib.hid (by rw [hxy.out]; rfl), hB⟩
      case round =>
        obtain ⟨j, x', y', hj, rfl, rfl, rfl, hxy', hB'⟩ := hrel
        clear hxy hB
        have bd := acOkT h5 hlt hj
        rw [← hxy'.out] at bd
        by_cases hlt2 : j < 3 * k + 1
        · have bd2 := acOkT h5 hlt (show j + 1 ≤ 3 * k + 1 by omega)
          obtain ⟨x2, hx2⟩ : ∃ x2 : Nat, x2 = x' * (j + 1) := ⟨_, rfl⟩
          have hx2i : (x' : Int) * ((j : Int) + 1) = (x2 : Int) := by rw [hx2]; push_cast; rfl
          have hx2b : x2 ≤ 130000000000000 := by rw [hx2]; exact mul13 bd.1.2 (by omega)
          have hx21 : 1 ≤ x2 := by rw [hx2]; exact Nat.mul_pos bd.1.1 (Nat.succ_pos _)
          obtain ⟨g, hg⟩ : ∃ g : Nat, g = Nat.gcd x2 y' := ⟨_, rfl⟩
          have hg1 : 1 ≤ g := by rw [hg]; exact Nat.gcd_pos_of_pos_left _ hx21
          have q1 := quo_nat (x := x2) hg1 (by omega)
          have q2 := quo_nat (x := y') hg1 (by have := bd.2.2; omega)
          have Hst := Lib.hid (show (x2 / g, y' / g) = goT (acP n k) (j + 1) by rw [goT, ← hxy'.out, stT, hg, hx2])
          have Hg := Lib.hid hg
          obtain ⟨u, hu⟩ : ∃ u, u = x2 / g := ⟨_, rfl⟩
          obtain ⟨v, hv⟩ : ∃ v, v = y' / g := ⟨_, rfl⟩
          rw [← hu, ← hv] at Hst
          rw [← hu] at q1
          rw [← hv] at q2
          have q1a := q1.1
          have q2a := q2.1
          have hu1 := q1.2.1
          have hv1 := q2.2.1
          have hz := q1.2.2
          have hy2 : y' ≤ 10000000000000 := bd.2.2
          clear hu hv hx2 hg q1 q2 bd bd2
          have hj0 : (0 : Int) ≤ (j : Int) := by omega
          go_wp2_with (go_at_call 150; go_must (refine (l15Gcd_any x2 y' _ (by omega) (by omega)).mono ?_; rintro e w1 ⟨rfl, hb1⟩; rw [← Hg.out]))
          go_roundw
          case rel => exact ⟨j + 1, u, v, by omega, by go_num, rfl, rfl, Hst, bl_trans hB' hb1⟩
          case measure => simp [intOf]; omega
        · obtain rfl : j = 3 * k + 1 := by omega
          clear hlt2
          go_wp2_with fail
          go_loopw [3, 4, 8] (fun p q r wr => ∃ (j x y : Nat), j ≤ n + k ∧ r = .int .i64 ((j : Int) + 1) ∧ p = .int .i64 (x : Int) ∧ q = .int .i64 (y : Int) ∧ Hid ((x, y) = goB (goT (acP n k) (3 * k + 1)) j) ∧ Below w.heap.size w wr) (fun _ _ r _ => n + k + 1 - (intOf r).toNat)
          case atStart => exact ⟨0, x', y', by omega, by simp, rfl, rfl, Lib.hid (by rw [hxy'.out]; rfl), hB'⟩
          case round =>
            obtain ⟨j, x3, y3, hj, rfl, rfl, rfl, hxy3, hB3⟩ := hrel
            clear hxy' hB' bd
            have bd := acOkB h5 hlt hj
            rw [← hxy3.out] at bd
            by_cases hlt3 : j < n + k
            · obtain ⟨y2, hy2⟩ : ∃ y2 : Nat, y2 = y3 * (j + 1) := ⟨_, rfl⟩
              have hy2i : (y3 : Int) * ((j : Int) + 1) = (y2 : Int) := by rw [hy2]; push_cast; rfl
              have hy2b : y2 ≤ 130000000000000 := by rw [hy2]; exact mul13 bd.2.2 (by omega)
              have hy21 : 1 ≤ y2 := by rw [hy2]; exact Nat.mul_pos bd.2.1 (Nat.succ_pos _)
              obtain ⟨g, hg⟩ : ∃ g : Nat, g = Nat.gcd x3 y2 := ⟨_, rfl⟩
              have hg1 : 1 ≤ g := by rw [hg]; exact Nat.gcd_pos_of_pos_left _ bd.1.1
              have q1 := quo_nat (x := x3) hg1 (by have := bd.1.2; omega)
              have q2 := quo_nat (x := y2) hg1 (by omega)
              have Hst := Lib.hid (show (x3 / g, y2 / g) = goB (goT (acP n k) (3 * k + 1)) (j + 1) by rw [goB, ← hxy3.out, stB, hg, hy2])
              have Hg := Lib.hid hg
              obtain ⟨u, hu⟩ : ∃ u, u = x3 / g := ⟨_, rfl⟩
              obtain ⟨v, hv⟩ : ∃ v, v = y2 / g := ⟨_, rfl⟩
              rw [← hu, ← hv] at Hst
              rw [← hu] at q1
              rw [← hv] at q2
              have q1a := q1.1
              have q2a := q2.1
              have hu1 := q1.2.1
              have hv1 := q2.2.1
              have hz := q1.2.2
              have hx3 : x3 ≤ 10000000000000 := bd.1.2
              clear hu hv hy2 hg q1 q2 bd
              have hj0 : (0 : Int) ≤ (j : Int) := by omega
              go_wp2_with (go_at_call 150; go_must (refine (l15Gcd_any x3 y2 _ (by omega) (by omega)).mono ?_; rintro e w1 ⟨rfl, hb1⟩; rw [← Hg.out]))
              go_roundw
              case rel => exact ⟨j + 1, u, v, by omega, by go_num, rfl, rfl, Hst, bl_trans hB3 hb1⟩
              case measure => simp [intOf]; omega
            · obtain rfl : j = n + k := by omega
              clear hlt3
              go_wp2_with fail
              go_roundw
              case rel => exact ⟨k + 1, x3, y3, by omega, by go_num, rfl, rfl, Lib.hid (by rw [hxy3.out]; rfl), hB3⟩
              case measure => simp [intOf]; omega
    · obtain rfl : k = n := by omega
      have hres := Lib.hid (show x / y = acS k by rw [acS, ← hxy.out])
      have bd : (1 ≤ x ∧ x ≤ 10000000000000) ∧ 1 ≤ y ∧ y ≤ 10000000000000 := by
        obtain ⟨m, rfl⟩ : ∃ m, k = m + 1 := ⟨k - 1, by omega⟩
        have := acOkB (n := m + 1) (k := m) (j := m + 1 + m) h5 (by omega) (Nat.le_refl _)
        have e : goB (goT (acP (m + 1) m) (3 * m + 1)) (m + 1 + m) = acP (m + 1) (m + 1) := rfl
        rw [e, ← hxy.out] at this
        exact this
      have q1 := quo_nat (x := x) bd.2.1 (by omega)
      have q1a := q1.1
      have hz := q1.2.2
      have hq := q1.2.1
      obtain ⟨u, hu⟩ : ∃ u, u = x / y := ⟨_, rfl⟩
      rw [← hu] at q1a hq hres
      clear q1 hu
      go_wp2_with fail
      go_ret
      exact ⟨ret_int (by rw [← hres.out]), hB⟩
set_option maxHeartbeats 1000000 in
theorem sameInts_any (A B : Option Addr) (N M c d : Nat) (l m : List Int) (w : World) (hN : N = l.length) (hM : M = m.length) (hl : N ≤ 1048576) (hm : M ≤ 1048576) (hr : RdI w A l) (hs : RdI w B m) :
    Calls Try.prog 68 #[.slice A N c, .slice B M d] w fun e w' => e = .returned (.bool (decide (l = m))) ∧ Below w.heap.size w w' := by
  have HN := Lib.hid hN
  have HM := Lib.hid hM
  have Hr := Lib.hid hr
  have Hs := Lib.hid hs
  by_cases hlen : N = M
  · subst hlen
    clear hN hM hr hs hm
    have q0 : (!(N : Int) == (N : Int)) = false := by simp
    go_enter Try.func68, Try.ntmps68
    go_wp2_with fail
    go_loopw [5] (fun i wr => ∃ q : Nat, q ≤ N ∧ i = .int .i64 (q : Int) ∧ Hid (decide (l = m) = decide (l.drop q = m.drop q)) ∧ Below w.heap.size w wr) (fun i _ => N - (intOf i).toNat)
    case atStart => exact ⟨0, by omega, rfl, Lib.hid (by simp), Below.refl _ _⟩
    case round =>
      obtain ⟨q, hq, rfl, hall, hb⟩ := hrel
      by_cases hlt : q < N
      · obtain ⟨b1, o1, x, rfl, hbl, hx, hd, _, hc⟩ := (Hr.out.below hb).at_ (k := q) (by have := HN.out; omega)
        obtain ⟨b2, o2, y, rfl, hbl2, hy, hd2, _, hc2⟩ := (Hs.out.below hb).at_ (k := q) (by have := HM.out; omega)
        have hall2 := Lib.hid (show decide (l = m) = decide (x = y ∧ l.drop (q + 1) = m.drop (q + 1)) by rw [hall.out, hd, hd2]; simp)
        have q1 := bq_cell hc
        have q2 := bq_cell hc2
        have hb0 := Lib.hid hb
        clear hd hd2 hx hy hall hb
        by_cases he : x = y
        · subst he
          have hxx : (x != x) = false := by simp
          go_wp2_with fail
          (refine wp_region_quiet_bel (by kernel_rfl) (by kernel_rfl) ?_; (repeat (first | go_big_quiet_step (fail) | quiet_step (fail))); refine wpQuiet_nil ?_; intro wq hw0; obtain ⟨⟨_, hbq⟩, hw1⟩ := hw0; subst hw1; try dsimp only)
          go_wp2_with fail
          go_roundw
          case rel => exact ⟨q + 1, by omega, by go_num, Lib.hid (by rw [hall2.out]; simp), bl_trans hb0.out hbq⟩
          case measure => simp [intOf]; omega
        · have hxy : (x != y) = true := by simp [he]
          have He := Lib.hid he
          clear he
          go_wp2_with fail
          (refine wp_region_quiet_bel (by kernel_rfl) (by kernel_rfl) ?_; (repeat (first | go_big_quiet_step (fail) | quiet_step (fail))); refine wpQuiet_nil ?_; intro wq hw0; obtain ⟨⟨_, hbq⟩, hw1⟩ := hw0; subst hw1; try dsimp only)
          go_wp2_with fail
          go_ret
          exact ⟨ret_bool (by rw [hall2.out]; simp [He.out]), bl_trans hb0.out hbq⟩
      · obtain rfl : q = N := by omega
        have h1 : l.drop q = [] := List.drop_eq_nil_of_le (by have := HN.out; omega)
        have h2 : m.drop q = [] := List.drop_eq_nil_of_le (by have := HM.out; omega)
        have hall2 := Lib.hid (show decide (l = m) = true by rw [hall.out, h1, h2]; simp)
        clear h1 h2 hall
        go_wp2_with fail
        go_ret
        exact ⟨ret_bool (by rw [hall2.out]), hb⟩
  · have Hne := Lib.hid (show decide (l = m) = false by simp; intro e; subst e; omega)
    have q0 : ((N : Int) != (M : Int)) = true := by simp; omega
    clear hN hM hr hs
    go_enter Try.func68, Try.ntmps68
    go_wp2_with fail
    go_ret
    exact ⟨ret_bool (by rw [Hne.out]), Below.refl _ _⟩
end Go.Proofs.Ytdcjhfmkkcakhaa

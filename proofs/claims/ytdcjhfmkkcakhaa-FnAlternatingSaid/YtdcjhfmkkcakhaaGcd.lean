/-
  Contracts of gcd (both): the greatest common divisor; no condition but the size of the numbers.
-/
import Derived.Test.YtdcjhfmkkcakhaaNum
namespace Go.Proofs.Ytdcjhfmkkcakhaa
open Go.ChangeShapes Go.WideShapes Go.ChangeAt Go.RowKit Go.Deep
set_option linter.unusedVariables false

set_option maxHeartbeats 1000000 in
theorem l15Gcd_any (a b : Nat) (w : World) (ha : a ≤ 1000000000000000) (hb : b ≤ 1000000000000000) :
    Calls Try.prog 150 #[.int .i64 (a : Int), .int .i64 (b : Int)] w fun e w' => e = .returned (.int .i64 (Nat.gcd a b : Nat)) ∧ Below w.heap.size w w' := by
  go_enter Try.func150, Try.ntmps150
  go_wp2_with fail
  go_loopw [0, 1] (fun p q wr => ∃ (x y : Nat), p = .int .i64 (x : Int) ∧ q = .int .i64 (y : Int) ∧ x ≤ 1000000000000000 ∧ y ≤ 1000000000000000 ∧ Hid (Nat.gcd x y = Nat.gcd a b) ∧ Below w.heap.size w wr) (fun _ q _ => (intOf q).toNat)
  case atStart => exact ⟨a, b, rfl, rfl, ha, hb, Lib.hid rfl, Below.refl _ _⟩
  case round =>
    obtain ⟨x, y, rfl, rfl, hx, hy, hg, hB⟩ := hrel
    by_cases h0 : 0 < y
    · have q1 : decide ((y : Int) > 0) = true := decide_eq_true (by omega)
      obtain ⟨m, hm⟩ : ∃ m, m = x % y := ⟨_, rfl⟩
      have hmi : ((x : Int)).tmod (y : Int) = (m : Int) := by rw [Int.tmod_eq_emod_of_nonneg (by omega), hm]; push_cast; rfl
      have hmy : m < y := by rw [hm]; exact Nat.mod_lt _ h0
      have hnz : ¬ y = 0 := by omega
      have Hg2 := Lib.hid (show Nat.gcd y m = Nat.gcd a b by rw [← hg.out, hm, Nat.gcd_comm x y, Nat.gcd_rec y x, Nat.gcd_comm])
      clear hm
      go_wp2_with fail
      go_quiet (fail)
      go_wp2_with fail
      go_roundw
      case rel => exact ⟨y, m, rfl, rfl, hy, by omega, Hg2, bl_drewN hB _⟩
      case measure => simp [intOf]; omega
    · have hy0 : y = 0 := by omega
      have q1 : decide ((y : Int) > 0) = false := decide_eq_false (by omega)
      have Hg2 := Lib.hid (show x = Nat.gcd a b by rw [← hg.out, hy0, Nat.gcd_zero_right])
      clear hy0
      go_wp2_with fail
      go_ret
      exact ⟨ret_int (by rw [← Hg2.out]), hB⟩
set_option maxHeartbeats 1000000 in
theorem gcd_any (a b : Nat) (w : World) (ha : a ≤ 1000000000000000) (hb : b ≤ 1000000000000000) :
    Calls Try.prog 135 #[.int .i64 (a : Int), .int .i64 (b : Int)] w fun e w' => e = .returned (.int .i64 (Nat.gcd a b : Nat)) ∧ Below w.heap.size w w' := by
  go_enter Try.func135, Try.ntmps135
  go_wp2_with fail
  go_loopw [0, 1] (fun p q wr => ∃ (x y : Nat), p = .int .i64 (x : Int) ∧ q = .int .i64 (y : Int) ∧ x ≤ 1000000000000000 ∧ y ≤ 1000000000000000 ∧ Hid (Nat.gcd x y = Nat.gcd a b) ∧ Below w.heap.size w wr) (fun _ q _ => (intOf q).toNat)
  case atStart => exact ⟨a, b, rfl, rfl, ha, hb, Lib.hid rfl, Below.refl _ _⟩
  case round =>
    obtain ⟨x, y, rfl, rfl, hx, hy, hg, hB⟩ := hrel
    by_cases h0 : 0 < y
    · have q1 : ((y : Int) != 0) = true := by simp; omega
      obtain ⟨m, hm⟩ : ∃ m, m = x % y := ⟨_, rfl⟩
      have hmi : ((x : Int)).tmod (y : Int) = (m : Int) := by rw [Int.tmod_eq_emod_of_nonneg (by omega), hm]; push_cast; rfl
      have hmy : m < y := by rw [hm]; exact Nat.mod_lt _ h0
      have hnz : ¬ y = 0 := by omega
      have Hg2 := Lib.hid (show Nat.gcd y m = Nat.gcd a b by rw [← hg.out, hm, Nat.gcd_comm x y, Nat.gcd_rec y x, Nat.gcd_comm])
      clear hm
      go_wp2_with fail
      go_quiet (fail)
      go_wp2_with fail
      go_roundw
      case rel => exact ⟨y, m, rfl, rfl, hy, by omega, Hg2, bl_drewN hB _⟩
      case measure => simp [intOf]; omega
    · have hy0 : y = 0 := by omega
      have q1 : ((y : Int) != 0) = false := by simp; omega
      have Hg2 := Lib.hid (show x = Nat.gcd a b by rw [← hg.out, hy0, Nat.gcd_zero_right])
      clear hy0
      go_wp2_with fail
      go_ret
      exact ⟨ret_int (by rw [← Hg2.out]), hB⟩
end Go.Proofs.Ytdcjhfmkkcakhaa

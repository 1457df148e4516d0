/-
  Plain facts on sets of cells as numbers: single bits, their union and intersection; no program in sight; no condition.
-/
import Derived.Test.YtdcjhfmkkcakhaaCell
namespace Go.Proofs.Ytdcjhfmkkcakhaa
open Go.ChangeShapes Go.WideShapes Go.ChangeAt Go.RowKit Go.Deep
set_option linter.unusedVariables false

def nthBit (x y : Int) : Nat := 2 ^ (y * 8 + x).toNat
def setD (x y : Int) (z : Bool) : Nat := nthBit x y ||| nthBit (sndX x z) (sndY y z)

theorem lt_of_lt_of_eq' {a b c : Int} (h : a < b) (e : b = c) : a < c := e ▸ h
theorem wrap_pow {n : Nat} (h : n < 64) : IntKind.u64.wrap ((2 : Int) ^ n) = ((2 ^ n : Nat) : Int) := by
  rw [IntKind.wrap_u64]
  have h1 : 2 ^ n < 2 ^ 64 := Nat.pow_lt_pow_right (by decide) h
  have h2 : ((2 : Int) ^ n) = ((2 ^ n : Nat) : Int) := by simp
  rw [h2]
  exact Int.emod_eq_of_lt (Int.natCast_nonneg _) (lt_of_lt_of_eq' (Int.ofNat_lt.2 h1) (by decide))
theorem nthBit_lt {x y : Int} (h : cellOk x y = true) : nthBit x y < 18446744073709551616 := by
  have := cellOk_iff.1 h
  have h1 : 2 ^ (y * 8 + x).toNat < 2 ^ 64 := Nat.pow_lt_pow_right (by decide) (by omega)
  exact h1
theorem or_lt {a b : Nat} (ha : a < 18446744073709551616) (hb : b < 18446744073709551616) : a ||| b < 18446744073709551616 := Nat.or_lt_two_pow (n := 64) ha hb
theorem and_lt {a b : Nat} (ha : a < 18446744073709551616) : a &&& b < 18446744073709551616 := Nat.lt_of_le_of_lt Nat.and_le_left ha
theorem domOk_cells {x y : Int} {z : Bool} (h : domOk x y z = true) : cellOk x y = true ∧ cellOk (sndX x z) (sndY y z) = true := by simpa [domOk] using h
theorem setD_lt {x y : Int} {z : Bool} (h : domOk x y z = true) : setD x y z < 18446744073709551616 := or_lt (nthBit_lt (domOk_cells h).1) (nthBit_lt (domOk_cells h).2)
theorem nthBit_test {x y : Int} (i : Nat) : (nthBit x y).testBit i = decide ((y * 8 + x).toNat = i) := by
  unfold nthBit
  rw [Nat.testBit_two_pow]
theorem idx_inj {a b c d : Int} (h1 : cellOk a b = true) (h2 : cellOk c d = true) : ((b * 8 + a).toNat = (d * 8 + c).toNat) ↔ (a = c ∧ b = d) := by
  have i1 := cellOk_iff.1 h1
  have i2 := cellOk_iff.1 h2
  omega
def ovl (x y : Int) (z : Bool) (a b : Int) (c : Bool) : Bool :=
  domOk x y z && domOk a b c && (decide (x = a ∧ y = b) || decide (x = sndX a c ∧ y = sndY b c) || decide (sndX x z = a ∧ sndY y z = b) || decide (sndX x z = sndX a c ∧ sndY y z = sndY b c))
theorem ovl_set {x y : Int} {z : Bool} {a b : Int} {c : Bool} (h1 : domOk x y z = true) (h2 : domOk a b c = true) : (!(((setD x y z &&& setD a b c : Nat) : Int) == 0)) = ovl x y z a b c := by
  obtain ⟨c1, c2⟩ := domOk_cells h1
  obtain ⟨c3, c4⟩ := domOk_cells h2
  have key : (setD x y z &&& setD a b c ≠ 0) ↔ ((x = a ∧ y = b) ∨ (x = sndX a c ∧ y = sndY b c) ∨ (sndX x z = a ∧ sndY y z = b) ∨ (sndX x z = sndX a c ∧ sndY y z = sndY b c)) := by
    rw [← idx_inj c1 c3, ← idx_inj c1 c4, ← idx_inj c2 c3, ← idx_inj c2 c4]
    constructor
    · intro h
      obtain ⟨i, hi⟩ := Nat.exists_testBit_of_ne_zero h
      simp only [setD, Nat.testBit_and, Nat.testBit_or, nthBit_test, Bool.and_eq_true, Bool.or_eq_true, decide_eq_true_eq] at hi
      omega
    · intro h h0
      have : ∀ i, (setD x y z &&& setD a b c).testBit i = false := by rw [h0]; simp
      simp only [setD, Nat.testBit_and, Nat.testBit_or, nthBit_test] at this
      rcases h with h | h | h | h
      · have := this (y * 8 + x).toNat; simp [h] at this
      · have := this (y * 8 + x).toNat; simp [h] at this
      · have := this (sndY y z * 8 + sndX x z).toNat; simp [h] at this
      · have := this (sndY y z * 8 + sndX x z).toNat; simp [h] at this
  rw [ovl, h1, h2, Bool.eq_iff_iff]
  simp only [Bool.not_eq_true', Bool.and_self, Bool.true_and, Bool.or_eq_true, decide_eq_true_eq, or_assoc, ← key]
  simp
end Go.Proofs.Ytdcjhfmkkcakhaa

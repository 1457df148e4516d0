/-
  Contracts of the functions on patterns (PatternOk, both; the laws' own copy, comparison and size): what each returns, as a function of its arguments; nothing that was there is written; at most 1048576 numbers.
-/
import Derived.Test.YtdcjhfmkkcakhaaInts
namespace Go.Proofs.Ytdcjhfmkkcakhaa
open Go.ChangeShapes Go.WideShapes Go.ChangeAt Go.RowKit Go.Deep
set_option linter.unusedVariables false

def patOk (a b m : Int) (l : List Int) : Bool := inB a 1 4 && inB b 1 4 && inB m 2 9 && decide ((l.length : Int) = a * b) && l.all fun x => inB x 0 (m - 1)
theorem small_mul {a b : Int} (h1 : 1 ≤ a) (h2 : a ≤ 4) (h3 : 1 ≤ b) (h4 : b ≤ 4) : 1 ≤ a * b ∧ a * b ≤ 16 := by
  have ha : a = 1 ∨ a = 2 ∨ a = 3 ∨ a = 4 := by omega
  rcases ha with rfl | rfl | rfl | rfl <;> omega
set_option maxRecDepth 100000 in
set_option maxHeartbeats 1000000 in
theorem PatternOk_i (a b m : Int) (A : Option Addr) (c : Nat) (l : List Int) (w : World) (hl : l.length ≤ 1048576) (hr : RdI w A l) :
    Calls Try.prog 18 #[.agg #[.int .i64 a, .int .i64 b, .int .i64 m, .slice A l.length c]] w fun e w' => e = .returned (.bool (patOk a b m l)) ∧ Below w.heap.size w w' := by
  have hr' := Lib.hid (hr.below ((Below.refl _ _).alloc (Nat.le_refl _) (.cells #[.int .i64 a, .int .i64 b, .int .i64 m, .slice A l.length c] 26)))
  clear hr
  by_cases h : inB a 1 4 = true ∧ inB b 1 4 = true ∧ inB m 2 9 = true
  · obtain ⟨h1, h2, h3⟩ := h
    have i1 := inB_true.1 h1
    have i2 := inB_true.1 h2
    have i3 := inB_true.1 h3
    have i4 := small_mul i1.1 i1.2 i2.1 i2.2
    by_cases h4 : (l.length : Int) = a * b
    · have h4' := Lib.hid h4
      have hq : ((l.length : Int) == a * b) = true := by simp [h4]
      clear h4
      go_enter Try.func18, Try.ntmps18
      go_wp2_with (first | (go_at_call 89; refine (within_any _ _ _ _).mono ?_; rintro e wn ⟨rfl, rfl⟩) | (go_at_call 90; refine (allWithin_any A c l _ _ _ hl hr'.out).mono ?_; rintro e wn ⟨rfl, rfl⟩))
      go_ret
      exact ⟨ret_bool (by simp [patOk, h1, h2, h3, h4'.out]), by go_grown⟩
    · have h4' := Lib.hid h4
      have hq : ((l.length : Int) == a * b) = false := by simp [h4]
      clear h4
      go_enter Try.func18, Try.ntmps18
      go_wp2_with (first | (go_at_call 89; refine (within_any _ _ _ _).mono ?_; rintro e wn ⟨rfl, rfl⟩) | (go_at_call 90; refine (allWithin_any A c l _ _ _ hl hr'.out).mono ?_; rintro e wn ⟨rfl, rfl⟩))
      go_ret
      exact ⟨ret_bool (by simp [patOk, h1, h2, h3, h4'.out]), by go_grown⟩
  · go_enter Try.func18, Try.ntmps18
    by_cases h1 : inB a 1 4 = true
    · by_cases h2 : inB b 1 4 = true
      · have h3 : inB m 2 9 = false := by
          cases h3 : inB m 2 9
          · rfl
          · exact absurd ⟨h1, h2, h3⟩ h
        clear h
        go_wp2_with (go_at_call 89; refine (within_any _ _ _ _).mono ?_; rintro e wn ⟨rfl, rfl⟩)
        go_ret
        exact ⟨ret_bool (by simp [patOk, h3]), by go_grown⟩
      · have h2' : inB b 1 4 = false := by simpa using h2
        clear h h2
        go_wp2_with (go_at_call 89; refine (within_any _ _ _ _).mono ?_; rintro e wn ⟨rfl, rfl⟩)
        go_ret
        exact ⟨ret_bool (by simp [patOk, h2']), by go_grown⟩
    · have h1' : inB a 1 4 = false := by simpa using h1
      clear h h1
      go_wp2_with (go_at_call 89; refine (within_any _ _ _ _).mono ?_; rintro e wn ⟨rfl, rfl⟩)
      go_ret
      exact ⟨ret_bool (by simp [patOk, h1']), by go_grown⟩
end Go.Proofs.Ytdcjhfmkkcakhaa

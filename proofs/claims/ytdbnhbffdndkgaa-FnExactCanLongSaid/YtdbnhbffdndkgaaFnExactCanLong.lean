/-
  The walk of the law FnExactCanLong: it returns true for all three numbers; no condition.
-/
import Derived.Test.YtdbnhbffdndkgaaFnExactLongOk
namespace Go.Proofs.Ytdbnhbffdndkgaa
open Go.ChangeShapes Go.WideShapes Go.ChangeAt Go.RowKit Go.Deep

def canLong (a b c : Int) : Bool := longOk a b c && (a % c == 0 || b % c == 0)

theorem CanLong_i (a b c : Int) (w : World) :
    Calls Try.prog 18 #[.int .i64 a, .int .i64 b, .int .i64 c] w fun e w' => e = .returned (.bool (canLong a b c)) ∧ w = w' := by
  by_cases h : longOk a b c = true
  · have h' := h
    simp [longOk, inB] at h'
    go_enter Try.func18, Try.ntmps18
    go_wp2_with (go_at_call 16; refine (LongOk_i _ _ _ _).mono ?_; rintro e w' ⟨rfl, rfl⟩)
    all_goals go_ret
    all_goals exact ⟨by simp_all [canLong], rfl⟩
  · go_enter Try.func18, Try.ntmps18
    go_wp2_with (go_at_call 16; refine (LongOk_i _ _ _ _).mono ?_; rintro e w' ⟨rfl, rfl⟩)
    all_goals go_ret
    all_goals exact ⟨by simp_all [canLong], rfl⟩
theorem CanLong_s (a b c : Int) (w : World) :
    Calls Try.prog 17 #[.int .i64 a, .int .i64 b, .int .i64 c] w fun e w' => e = .returned (.bool (canLong a b c)) ∧ w = w' := by
  by_cases h : longOk a b c = true
  · have h' := h
    simp [longOk, inB] at h'
    go_enter Try.func17, Try.ntmps17
    go_wp2_with (go_at_call 15; refine (LongOk_s _ _ _ _).mono ?_; rintro e w' ⟨rfl, rfl⟩)
    all_goals go_ret
    all_goals exact ⟨by simp_all [canLong], rfl⟩
  · go_enter Try.func17, Try.ntmps17
    go_wp2_with (go_at_call 15; refine (LongOk_s _ _ _ _).mono ?_; rintro e w' ⟨rfl, rfl⟩)
    all_goals go_ret
    all_goals exact ⟨by simp_all [canLong], rfl⟩
theorem walk_FnExactCanLong (a b c : Int) (w : World) (_ : I64 a) (_ : I64 b) (_ : I64 c) :
    Calls Try.prog 4 #[.int .i64 a, .int .i64 b, .int .i64 c] w fun e w' => e = .returned (.bool true) ∧ Below w.heap.size w w' := by
  go_enter Try.func4, Try.ntmps4
  go_wp2_with (first | (go_at_call 17; refine (CanLong_s _ _ _ _).mono ?_; rintro e w' ⟨rfl, rfl⟩) | (go_at_call 18; refine (CanLong_i _ _ _ _).mono ?_; rintro e w' ⟨rfl, rfl⟩))
  all_goals go_ret
  all_goals exact ⟨rfl, Below.refl _ _⟩
end Go.Proofs.Ytdbnhbffdndkgaa

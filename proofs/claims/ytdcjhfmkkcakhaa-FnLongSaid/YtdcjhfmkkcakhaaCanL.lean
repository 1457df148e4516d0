/-
  Contracts of CanLong and AreEven of impl: what each returns, as a function of its arguments; nothing that was there is written; lists of at most 1048576.
-/
import Derived.Test.YtdcjhfmkkcakhaaCovL
import Derived.Test.YtdcjhfmkkcakhaaInts
namespace Go.Proofs.Ytdcjhfmkkcakhaa
open Go.ChangeShapes Go.WideShapes Go.ChangeAt Go.RowKit Go.Deep
set_option linter.unusedVariables false

def canLong (a b c : Int) : Bool := longOk a b c && (a % c == 0 || b % c == 0)

theorem CanLong_i (a b c : Int) (w : World) :
    Calls Try.prog 47 #[.int .i64 a, .int .i64 b, .int .i64 c] w fun e w' => e = .returned (.bool (canLong a b c)) ∧ w = w' := by
  by_cases h : longOk a b c = true
  · have h' := h
    simp [longOk, inB] at h'
    go_enter Try.func47, Try.ntmps47
    go_wp2_with (go_at_call 46; refine (LongOk_i _ _ _ _).mono ?_; rintro e w' ⟨rfl, rfl⟩)
    all_goals go_ret
    all_goals exact ⟨by simp_all [canLong], rfl⟩
  · go_enter Try.func47, Try.ntmps47
    go_wp2_with (go_at_call 46; refine (LongOk_i _ _ _ _).mono ?_; rintro e w' ⟨rfl, rfl⟩)
    all_goals go_ret
    all_goals exact ⟨by simp_all [canLong], rfl⟩
def areEven : List Int → Bool
  | [] => false
  | a :: l => (a :: l).all fun x => x == a
theorem AreEven_i (A : Option Addr) (c : Nat) (l : List Int) (w : World) (hl : l.length ≤ 1048576) (hr : RdI w A l) :
    Calls Try.prog 48 #[.slice A l.length c] w fun e w' => e = .returned (.bool (areEven l)) ∧ Below w.heap.size w w' := by
  cases l with
  | nil =>
    go_enter Try.func48, Try.ntmps48
    go_wp2
    refine wp_loop_rounds 1 ?_
    rw [rounds_succ]
    go_wp2
    go_ret
    exact ⟨rfl, Below.refl _ _⟩
  | cons a0 l0 =>
    obtain ⟨b, off, x0, hA, hbl, hx0, _, _, hc0⟩ := hr.at_ (k := 0) (by simp)
    simp only [List.getElem?_cons_zero, Option.some.injEq] at hx0
    subst hx0
    subst hA
    rw [Nat.add_zero] at hc0
    have hae : areEven (a0 :: l0) = (a0 :: l0).all fun x => x == a0 := rfl
    have hpos : 0 < (a0 :: l0).length := by simp
    have hae' := Lib.hid hae
    clear hae
    generalize a0 :: l0 = l at *
    go_enter Try.func48, Try.ntmps48
    go_wp2
    go_loop [7] (fun i => ∃ k : Nat, k ≤ l.length ∧ i = .int .i64 k ∧ (l.all fun x => x == a0) = ((l.drop k).all fun x => x == a0)) (fun i => l.length - (intOf i).toNat)
    case atStart => exact ⟨0, by omega, rfl, rfl⟩
    case round =>
      obtain ⟨k, hk, rfl, hall⟩ := hrel
      by_cases hlt : k < l.length
      · obtain ⟨b', off', x, e, hb, hx, hd, hxr, hc⟩ := hr.at_ hlt
        simp only [Option.some.injEq, Addr.mk.injEq, and_true] at e
        obtain ⟨rfl, rfl⟩ := e
        rw [hd] at hall
        have H := Lib.hid hall
        clear hall hd hx hr
        by_cases hin : x = a0
        · have hne : (x != a0) = false := by simp [hin]
          have hin' := Lib.hid hin
          clear hin
          go_wp2
          go_round
          case rel => exact ⟨k + 1, by omega, by go_num, by rw [H.out]; simp [hin'.out]⟩
          case measure => simp [intOf]; omega
        · have hne : (x != a0) = true := by simp [hin]
          have hin' := Lib.hid hin
          clear hin
          go_wp2
          go_ret
          exact ⟨ret_bool (by rw [hae'.out, H.out]; simp [hin'.out]), Below.refl _ _⟩
      · have h1 : l.drop k = [] := List.drop_eq_nil_of_le (by omega)
        rw [h1] at hall
        have H := Lib.hid hall
        clear hall h1 hr
        go_wp2
        go_ret
        exact ⟨ret_bool (by rw [hae'.out, H.out]; simp), Below.refl _ _⟩
end Go.Proofs.Ytdcjhfmkkcakhaa

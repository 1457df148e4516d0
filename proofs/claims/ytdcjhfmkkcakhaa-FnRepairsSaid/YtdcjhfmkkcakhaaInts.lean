/-
  Contracts of functions over slices of integers (toIntS, eqIntS, allWithin, isStrict): what each returns, as a function of the list; nothing that was there is written; lists of at most 1048576 numbers.
-/
import Derived.Test.YtdcjhfmkkcakhaaNum
namespace Go.Proofs.Ytdcjhfmkkcakhaa
open Go.ChangeShapes Go.WideShapes Go.ChangeAt Go.RowKit Go.Deep
set_option linter.unusedVariables false

theorem info_int : (Try.prog.info? 3).map (fun i => (i.zero, i.size, i.bytes)) = some (some (.int .i64 0), 1, 8) := by kernel_rfl

theorem allWithin_any (A : Option Addr) (c : Nat) (l : List Int) (a b : Int) (w : World) (hl : l.length ≤ 1048576) (hr : RdI w A l) :
    Calls Try.prog 90 #[.slice A l.length c, .int .i64 a, .int .i64 b] w fun e w' => e = .returned (.bool (l.all fun x => inB x a b)) ∧ w = w' := by
  go_enter Try.func90, Try.ntmps90
  go_wp2
  go_loop [11] (fun i => ∃ k : Nat, k ≤ l.length ∧ i = .int .i64 k ∧ (l.all fun x => inB x a b) = ((l.drop k).all fun x => inB x a b)) (fun i => l.length - (intOf i).toNat)
  case atStart => exact ⟨0, by omega, rfl, rfl⟩
  case round =>
    obtain ⟨k, hk, rfl, hall⟩ := hrel
    by_cases hlt : k < l.length
    · obtain ⟨b', off, x, rfl, hb, hx, hd, hxr, hc⟩ := hr.at_ hlt
      rw [hd] at hall
      have H := Lib.hid hall
      clear hall hd hx hr
      cases hin : inB x a b
      · go_wp2_with (go_at_call 89; refine (within_any _ _ _ _).mono ?_; rintro e w' ⟨rfl, rfl⟩)
        go_ret
        exact ⟨by rw [H.out]; simp [hin], rfl⟩
      · go_wp2_with (go_at_call 89; refine (within_any _ _ _ _).mono ?_; rintro e w' ⟨rfl, rfl⟩)
        go_round
        case rel => exact ⟨k + 1, by omega, by go_num, by rw [H.out]; simp [hin]⟩
        case measure => simp [intOf]; omega
    · have h1 : l.drop k = [] := List.drop_eq_nil_of_le (by omega)
      rw [h1] at hall
      have H := Lib.hid hall
      clear hall h1 hr
      go_wp2
      go_ret
      exact ⟨by rw [H.out]; simp, rfl⟩
end Go.Proofs.Ytdcjhfmkkcakhaa

/-
  Contracts of Rectangle (both): what it returns, as a function of its arguments; nothing that was there is written; no condition.
-/
import Derived.Test.YtdcjhfmkkcakhaaSets
import Derived.Test.YtdcjhfmkkcakhaaIn
import Derived.Test.YtdcjhfmkkcakhaaApp
import Derived.Deep.RegionLaw
import Derived.Deep.DeepMust
namespace Go.Proofs.Ytdcjhfmkkcakhaa
open Go.ChangeShapes Go.WideShapes Go.ChangeAt Go.RowKit Go.Deep
set_option linter.unusedVariables false

def rectR (w h : Int) : List Int := if inB w 1 8 && inB h 1 8 then List.replicate h.toNat ((2 ^ w.toNat : Nat) - 1 : Int) else []
theorem pow8 {n : Nat} (h : n ≤ 8) : 2 ^ n ≤ 256 := by
  have : 2 ^ n ≤ 2 ^ 8 := Nat.pow_le_pow_right (by decide) h
  exact this
theorem rectR_ok (w h : Int) : regOk (rectR w h) = true := by
  rw [regOk_iff]
  unfold rectR
  split
  · rename_i hh
    simp only [Bool.and_eq_true] at hh
    have h1 := inB_true.1 hh.1
    have h2 := inB_true.1 hh.2
    refine ⟨by simp; omega, fun v hv => ?_⟩
    have := List.eq_of_mem_replicate hv
    have h3 := pow8 (n := w.toNat) (by omega)
    have h4 : 1 ≤ 2 ^ w.toNat := Nat.one_le_two_pow
    omega
  · simp
theorem wrap_pow_i {n : Nat} (h : n ≤ 60) : IntKind.i64.wrap ((2 : Int) ^ n) = ((2 ^ n : Nat) : Int) := by
  rw [IntKind.wrap_i64]
  have h1 : 2 ^ n ≤ 2 ^ 60 := Nat.pow_le_pow_right (by decide) h
  have h2 : ((2 : Int) ^ n) = ((2 ^ n : Nat) : Int) := by simp
  rw [h2]
  generalize 2 ^ n = m at *
  omega
set_option maxRecDepth 100000 in
set_option maxHeartbeats 4000000 in
theorem Rectangle_i (x y : Int) (w : World) :
    Calls Try.prog 25 #[.int .i64 x, .int .i64 y] w fun e w' => ∃ A c, e = .returned (.agg #[.slice A (rectR x y).length c]) ∧ OwI w.heap.size w' (.slice A (rectR x y).length c) (rectR x y) ∧ Below w.heap.size w w' := by
  have R := Blk.new w 31 [.slice none 0 0]
  have Rc := R.c1
  have Rf := R.frozen 0
  cases h1 : inB x 1 8
  · have hv : rectR x y = [] := by simp [rectR, h1]
    rw [hv]
    go_enter Try.func25, Try.ntmps25
    go_wp2_with (go_at_call 89; refine (within_any _ _ _ _).mono ?_; rintro e wn ⟨rfl, rfl⟩)
    exact bodyPost_ret (res_region rfl rfl R) rfl ⟨none, 0, rfl, OwI.nil_ _ _, by go_grown⟩
  · cases h2 : inB y 1 8
    · have hv : rectR x y = [] := by simp [rectR, h2]
      rw [hv]
      go_enter Try.func25, Try.ntmps25
      go_wp2_with (go_at_call 89; refine (within_any _ _ _ _).mono ?_; rintro e wn ⟨rfl, rfl⟩)
      exact bodyPost_ret (res_region rfl rfl R) rfl ⟨none, 0, rfl, OwI.nil_ _ _, by go_grown⟩
    · have i1 := inB_true.1 h1
      have i2 := inB_true.1 h2
      obtain ⟨a, rfl⟩ : ∃ a : Nat, x = a := ⟨x.toNat, by omega⟩
      obtain ⟨b, rfl⟩ : ∃ b : Nat, y = b := ⟨y.toNat, by omega⟩
      obtain ⟨v, hv⟩ : ∃ v : Int, v = ((2 ^ a : Nat) : Int) - 1 := ⟨_, rfl⟩
      have hr : rectR (a : Int) (b : Int) = List.replicate b v := by simp [rectR, h1, h2, hv]
      have h256 := pow8 (n := a) (by omega)
      have hone : 1 ≤ 2 ^ a := Nat.one_le_two_pow
      have hvr : I64 v := ⟨by omega, by omega⟩
      have hp : (2 : Int) ^ a = ((2 ^ a : Nat) : Int) := by simp
      have hw1 : IntKind.i64.wrap ((2 : Int) ^ a - 1) = v := by rw [hp, hv]; exact IntWalk.i64_in _ (by omega)
      have hw2 : IntKind.i64.wrap ((2 : Int) ^ a) = (2 : Int) ^ a := by rw [hp]; exact IntWalk.i64_in _ (by omega)
      rw [hr]
      have P := Blk.new2 w (.cells #[.slice none 0 0] 31) 31 [.slice none 0 0]
      have R2 := R.alloc (.cells #[.slice none 0 0] 31)
      have hB := bl_alloc (bl_alloc (Below.refl w.heap.size w) (.cells #[.slice none 0 0] 31)) (.cells #[.slice none 0 0] 31)
      clear hv hr h256 hone hp
      go_enter Try.func25, Try.ntmps25
      go_wp2_with (go_at_call 89; refine (within_any _ _ _ _).mono ?_; rintro e wn ⟨rfl, rfl⟩)
      go_loopw [17] (fun q wr => ∃ k : Nat, ∃ u, k ≤ b ∧ q = .int .i64 k ∧ OwI (w.heap.size + 2) wr u (List.replicate k v) ∧ Blk wr (w.heap.size + 1) 31 [u] ∧ Blk wr w.heap.size 31 [.slice none 0 0] ∧ Below w.heap.size w wr) (fun q _ => b - (intOf q).toNat)
      case atStart => exact ⟨0, .slice none 0 0, by omega, rfl, OwI.nil_ _ _, P, R2, hB⟩
      case round =>
        obtain ⟨k, u, hk, rfl, own, P', R', hB'⟩ := hrel
        clear P R2 hB R Rc Rf
        by_cases hlt : k < b
        · have Pc := P'.c1
          have Pf := P'.frozen 0
          have hPl := P'.lt
          have hrep := Lib.hid (show List.replicate k v ++ [v] = List.replicate (k + 1) v by rw [List.replicate_succ'])
          have hlen : (List.replicate k v).length ≤ 1048576 := by simp; omega
          have ha0 : (0 : Int) ≤ (a : Int) := by omega
          have HO := Lib.hid own
          clear own
          go_wp2_with fail
          have hA0 := World.new_ne wr ⟨w.heap.size + 1, 0, none⟩ Pc
          go_region_law
            ((refine step_as1Id (by rfl) (.tmp 20) (.tmp 24) (by rfl) (w.heap.size + 2) u (List.replicate k v) v (by rfl) (by rfl) HO.out hPl hlen hvr ?_; intro A3 L3 c3 w3 hL3 o3 b3 g3 s3; have P3 := P'.below (b3 _ (Below.refl _ _)) (Nat.lt_succ_self _); have Pc3 := P3.c1; have Pf3 := P3.frozen 0; have O3 := Lib.hid o3; have HB3 := Lib.hid (hB'.trans ((b3 _ (Below.refl _ _)).mono (by omega))); have R3 := R'.below (b3 _ (Below.refl _ _)) (by omega); clear o3 b3 g3))
          all_goals (go_wp2_with fail; go_roundw; (case rel => exact ⟨k + 1, .slice A3 L3 c3, by omega, by go_num, by rw [← hrep.out]; exact O3.out.set_ (p := ⟨w.heap.size + 1, 0, none⟩) (Nat.lt_succ_self _) _, P3.set_ 0 _, R3.farN _ _ (by omega) _, bl_set HB3.out (p := ⟨w.heap.size + 1, 0, none⟩) (Nat.le_succ _) _⟩); (case measure => simp [intOf]; omega))
        · obtain rfl : k = b := by omega
          have Pc := P'.c1
          have Rf := R'.frozen 0
          have Rc := R'.c1
          obtain ⟨⟨A3, c3, rfl⟩, _⟩ := id own
          have hlr : (List.replicate k v).length = k := List.length_replicate
          rw [hlr] at own P' Pc
          have HO := Lib.hid (own.set_ (p := ⟨w.heap.size, 0, none⟩) (by show w.heap.size < w.heap.size + 2; omega) (.slice A3 k c3))
          have R3 := R'.set_ 0 (.slice A3 k c3)
          have hwz : w.heap.size ≤ w.heap.size + 2 := by omega
          have HLR := Lib.hid hlr
          clear own hlr
          go_wp2_with fail
          exact bodyPost_ret (res_region rfl rfl R3) rfl ⟨A3, c3, by rw [HLR.out], by rw [HLR.out]; exact HO.out.mono hwz, bl_set hB' (p := ⟨w.heap.size, 0, none⟩) (Nat.le_refl _) _⟩
end Go.Proofs.Ytdcjhfmkkcakhaa

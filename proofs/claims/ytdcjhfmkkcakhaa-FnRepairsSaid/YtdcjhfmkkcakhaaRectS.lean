/-
  Contract of the reference's Rectangle: what it returns, as a function of its arguments; nothing that was there is written; no condition.
-/
import Derived.Test.YtdcjhfmkkcakhaaRect
namespace Go.Proofs.Ytdcjhfmkkcakhaa
open Go.ChangeShapes Go.WideShapes Go.ChangeAt Go.RowKit Go.Deep
set_option linter.unusedVariables false
set_option maxRecDepth 100000 in
set_option maxHeartbeats 4000000 in
theorem Rectangle_s (x y : Int) (w : World) :
    Calls Try.prog 130 #[.int .i64 x, .int .i64 y] w fun e w' => ∃ A c, e = .returned (.agg #[.slice A (rectR x y).length c]) ∧ OwI w.heap.size w' (.slice A (rectR x y).length c) (rectR x y) ∧ Below w.heap.size w w' := by
  have R := Blk.new w 31 [.slice none 0 0]
  have P := Blk.new2 w (.cells #[.slice none 0 0] 31) 31 [.slice none 0 0]
  have R2 := R.alloc (.cells #[.slice none 0 0] 31)
  have hB := bl_alloc (bl_alloc (Below.refl w.heap.size w) (.cells #[.slice none 0 0] 31)) (.cells #[.slice none 0 0] 31)
  obtain ⟨v, hv⟩ : ∃ v : Int, v = ((2 ^ x.toNat : Nat) : Int) - 1 := ⟨_, rfl⟩
  obtain ⟨K, hK⟩ : ∃ K : Nat, K = (rectR x y).length := ⟨_, rfl⟩
  have hR : rectR x y = List.replicate K v := by
    unfold rectR at hK ⊢
    split
    · rename_i h; rw [if_pos h] at hK; rw [hK, hv]; simp
    · rename_i h; rw [if_neg h] at hK; rw [hK]; rfl
  have hKg : K = 0 ∨ (inB x 1 8 = true ∧ inB y 1 8 = true ∧ (K : Int) = y) := by
    unfold rectR at hK
    split at hK
    · rename_i h
      rw [Bool.and_eq_true] at h
      have := inB_true.1 h.2
      exact .inr ⟨h.1, h.2, by rw [hK]; simp; omega⟩
    · exact .inl (by simpa using hK)
  have hKb : (inB x 1 8 && inB y 1 8) = false → K = 0 := fun h => by rw [hK, rectR, h]; rfl
  have HK := Lib.hid hK.symm
  have HR := Lib.hid hR
  clear hK hR
  go_enter Try.func130, Try.ntmps130
  go_wp2_with fail
  go_loopw [6] (fun q wr => ∃ k : Nat, ∃ u, k ≤ K ∧ q = .int .i64 k ∧ OwI (w.heap.size + 2) wr u (List.replicate k v) ∧ Blk wr (w.heap.size + 1) 31 [u] ∧ Blk wr w.heap.size 31 [.slice none 0 0] ∧ Below w.heap.size w wr) (fun q _ => K - (intOf q).toNat)
  case atStart => exact ⟨0, .slice none 0 0, by omega, rfl, OwI.nil_ _ _, P, R2, hB⟩
  case round =>
    obtain ⟨k, u, hk, rfl, own, P', R', hB'⟩ := hrel
    clear P R2 hB R
    by_cases hlt : k < K
    · obtain ⟨g1, g2, g3⟩ := hKg.resolve_left (by omega)
      have i1 := inB_true.1 g1
      have i2 := inB_true.1 g2
      obtain ⟨a, rfl⟩ : ∃ a : Nat, x = a := ⟨x.toNat, by omega⟩
      have h256 := pow8 (n := a) (by omega)
      have hone : 1 ≤ 2 ^ a := Nat.one_le_two_pow
      have hta : ((a : Int)).toNat = a := by simp
      rw [hta] at hv
      have hvr : I64 v := ⟨by omega, by omega⟩
      have hp : (2 : Int) ^ a = ((2 ^ a : Nat) : Int) := by simp
      have hw1 : IntKind.i64.wrap ((2 : Int) ^ a - 1) = v := by rw [hp, hv]; exact IntWalk.i64_in _ (by omega)
      have hw2 : IntKind.i64.wrap ((2 : Int) ^ a) = (2 : Int) ^ a := by rw [hp]; exact IntWalk.i64_in _ (by omega)
      have q0 : decide ((k : Int) < y) = true := decide_eq_true (by omega)
      have Pc := P'.c1
      have Pf := P'.frozen 0
      have hPl := P'.lt
      have hrep := Lib.hid (show List.replicate k v ++ [v] = List.replicate (k + 1) v by rw [List.replicate_succ'])
      have hlen : (List.replicate k v).length ≤ 1048576 := by simp; omega
      have ha0 : (0 : Int) ≤ (a : Int) := by omega
      have HO := Lib.hid own
      clear own hv h256 hone hp hta hKg hKb
      go_wp2_with (go_at_call 128; refine (l01In_any _ _ _ _).mono ?_; rintro e wn ⟨rfl, rfl⟩)
      have hA0 := World.new_ne wr ⟨w.heap.size + 1, 0, none⟩ Pc
      go_region_law
        ((refine step_as1Id (by rfl) (.tmp 22) (.tmp 26) (by rfl) (w.heap.size + 2) u (List.replicate k v) v (by rfl) (by rfl) HO.out hPl hlen hvr ?_; intro A3 L3 c3 w3 hL3 o3 b3 g3 s3; have P3 := P'.below (b3 _ (Below.refl _ _)) (Nat.lt_succ_self _); have Pc3 := P3.c1; have Pf3 := P3.frozen 0; have O3 := Lib.hid o3; have HB3 := Lib.hid (hB'.trans ((b3 _ (Below.refl _ _)).mono (by omega))); have R3 := R'.below (b3 _ (Below.refl _ _)) (by omega); clear o3 b3 g3))
      all_goals (go_wp2_with fail; go_roundw; (case rel => exact ⟨k + 1, .slice A3 L3 c3, by omega, by go_num, by rw [← hrep.out]; exact O3.out.set_ (p := ⟨w.heap.size + 1, 0, none⟩) (Nat.lt_succ_self _) _, P3.set_ 0 _, R3.farN _ _ (by omega) _, bl_set HB3.out (p := ⟨w.heap.size + 1, 0, none⟩) (Nat.le_succ _) _⟩); (case measure => simp [intOf]; omega))
    · obtain rfl : k = K := by omega
      have hlr : (List.replicate k v).length = k := List.length_replicate
      by_cases hy : (k : Int) < y
      · have q0 : decide ((k : Int) < y) = true := decide_eq_true hy
        cases g1 : inB x 1 8
        · clear hKg hKb
          have Pc := P'.c1
          have Rf := R'.frozen 0
          have Rc := R'.c1
          obtain ⟨⟨A3, c3, rfl⟩, _⟩ := id own
          rw [hlr] at own P' Pc
          have HO := Lib.hid (own.set_ (p := ⟨w.heap.size, 0, none⟩) (by show w.heap.size < w.heap.size + 2; omega) (.slice A3 k c3))
          have R3 := R'.set_ 0 (.slice A3 k c3)
          have hwz : w.heap.size ≤ w.heap.size + 2 := by omega
          clear own hlr
          go_wp2_with (go_at_call 128; refine (l01In_any _ _ _ _).mono ?_; rintro e wn ⟨rfl, rfl⟩)
          exact bodyPost_ret (res_region rfl rfl R3) rfl ⟨A3, c3, by rw [HK.out], by rw [HK.out, HR.out]; exact HO.out.mono hwz, bl_set hB' (p := ⟨w.heap.size, 0, none⟩) (Nat.le_refl _) _⟩
        · cases g2 : inB y 1 8
          · clear hKg hKb
            have Pc := P'.c1
            have Rf := R'.frozen 0
            have Rc := R'.c1
            obtain ⟨⟨A3, c3, rfl⟩, _⟩ := id own
            rw [hlr] at own P' Pc
            have HO := Lib.hid (own.set_ (p := ⟨w.heap.size, 0, none⟩) (by show w.heap.size < w.heap.size + 2; omega) (.slice A3 k c3))
            have R3 := R'.set_ 0 (.slice A3 k c3)
            have hwz : w.heap.size ≤ w.heap.size + 2 := by omega
            clear own hlr
            go_wp2_with (go_at_call 128; refine (l01In_any _ _ _ _).mono ?_; rintro e wn ⟨rfl, rfl⟩)
            exact bodyPost_ret (res_region rfl rfl R3) rfl ⟨A3, c3, by rw [HK.out], by rw [HK.out, HR.out]; exact HO.out.mono hwz, bl_set hB' (p := ⟨w.heap.size, 0, none⟩) (Nat.le_refl _) _⟩
          · exfalso
            rcases hKg with h0 | ⟨_, _, h0⟩
            · have e := HK.out
              have := inB_true.1 g2
              rw [rectR, g1, g2] at e
              simp at e
              omega
            · omega
      · have q0 : decide ((k : Int) < y) = false := decide_eq_false hy
        clear hKg hKb
        have Pc := P'.c1
        have Rf := R'.frozen 0
        have Rc := R'.c1
        obtain ⟨⟨A3, c3, rfl⟩, _⟩ := id own
        rw [hlr] at own P' Pc
        have HO := Lib.hid (own.set_ (p := ⟨w.heap.size, 0, none⟩) (by show w.heap.size < w.heap.size + 2; omega) (.slice A3 k c3))
        have R3 := R'.set_ 0 (.slice A3 k c3)
        have hwz : w.heap.size ≤ w.heap.size + 2 := by omega
        clear own hlr
        go_wp2_with (go_at_call 128; refine (l01In_any _ _ _ _).mono ?_; rintro e wn ⟨rfl, rfl⟩)
        exact bodyPost_ret (res_region rfl rfl R3) rfl ⟨A3, c3, by rw [HK.out], by rw [HK.out, HR.out]; exact HO.out.mono hwz, bl_set hB' (p := ⟨w.heap.size, 0, none⟩) (Nat.le_refl _) _⟩
end Go.Proofs.Ytdcjhfmkkcakhaa

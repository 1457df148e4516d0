/-
  Contracts of WeightAt, both: what it returns, as a function of its arguments; nothing that was there is written; patterns of at most 1048576 numbers.
-/
import Derived.Test.YtdcjhfmkkcakhaaPattern
import Derived.Test.YtdcjhfmkkcakhaaCell
namespace Go.Proofs.Ytdcjhfmkkcakhaa
open Go.ChangeShapes Go.WideShapes Go.ChangeAt Go.RowKit Go.Deep
set_option linter.unusedVariables false

def weightIdx (a b x y : Int) : Int := y.tmod b * a + x.tmod a
def weightAt (a b m : Int) (l : List Int) (x y : Int) : Int := if patOk a b m l && cellOk x y then (l[(weightIdx a b x y).toNat]?).getD 0 else 0
theorem patOk_true {a b m : Int} {l : List Int} (h : patOk a b m l = true) : 1 ≤ a ∧ a ≤ 4 ∧ 1 ≤ b ∧ b ≤ 4 ∧ 2 ≤ m ∧ m ≤ 9 ∧ (l.length : Int) = a * b := by
  simp only [patOk, Bool.and_eq_true, decide_eq_true_eq] at h
  obtain ⟨⟨⟨⟨h1, h2⟩, h3⟩, h4⟩, _⟩ := h
  have i1 := inB_true.1 h1
  have i2 := inB_true.1 h2
  have i3 := inB_true.1 h3
  exact ⟨i1.1, i1.2, i2.1, i2.2, i3.1, i3.2, h4⟩
theorem weight_facts {a b x y : Int} (ha : 1 ≤ a) (ha' : a ≤ 4) (hb : 1 ≤ b) (hb' : b ≤ 4) (h : cellOk x y = true) :
    0 ≤ y.tmod b ∧ y.tmod b ≤ 3 ∧ 0 ≤ x.tmod a ∧ x.tmod a ≤ 3 ∧ 0 ≤ y.tmod b * a ∧ y.tmod b * a ≤ 12 ∧ 0 ≤ weightIdx a b x y ∧ weightIdx a b x y < a * b := by
  have hc := cellOk_iff.1 h
  have e1 : y.tmod b = y % b := Int.tmod_eq_emod_of_nonneg (by omega)
  have e2 : x.tmod a = x % a := Int.tmod_eq_emod_of_nonneg (by omega)
  have hA : a = 1 ∨ a = 2 ∨ a = 3 ∨ a = 4 := by omega
  have hB : b = 1 ∨ b = 2 ∨ b = 3 ∨ b = 4 := by omega
  rw [weightIdx, e1, e2]
  clear e1 e2
  rcases hA with rfl | rfl | rfl | rfl <;> rcases hB with rfl | rfl | rfl | rfl <;> omega
set_option maxHeartbeats 2000000 in
theorem WeightAt_i (a b m : Int) (A : Option Addr) (c : Nat) (l : List Int) (x y : Int) (w : World) (hl : l.length ≤ 1048576) (hr : RdI w A l) :
    Calls Try.prog 24 #[.agg #[.int .i64 a, .int .i64 b, .int .i64 m, .slice A l.length c], .agg #[.int .i64 x, .int .i64 y]] w fun e w' => e = .returned (.int .i64 (weightAt a b m l x y)) ∧ Below w.heap.size w w' := by
  (have hB := Below.refl w.heap.size w; have P := (Blk.new w 26 [.int .i64 a, .int .i64 b, .int .i64 m, .slice A l.length c]).alloc (.cells #[.int .i64 x, .int .i64 y] 35); have Pc := P.c4; have Q := Blk.new2 w (.cells #[.int .i64 a, .int .i64 b, .int .i64 m, .slice A l.length c] 26) 35 [.int .i64 x, .int .i64 y]; have Qc := Q.c2)
  have hr' := Lib.hid hr
  clear hr
  cases h1 : patOk a b m l
  · go_enter Try.func24, Try.ntmps24
    go_wp2_with (first | (go_at_call 18; refine (PatternOk_i _ _ _ A c l _ hl (hr'.out.below (bl_trans hB (by go_grown)))).mono ?_; rintro e wn ⟨rfl, hbn⟩; have hSz := bl_sz (bl_trans hB (by go_grown)) hbn; replace hB := bl_trans (bl_trans hB (by go_grown)) hbn; replace P := P.bel (bl_trans (by go_grown) hbn); replace Pc := P.c4; replace Q := Q.bel (bl_trans (by go_grown) hbn); replace Qc := Q.c2; clear hbn) | (go_at_call 102; refine (CellOk_i _ _ _).mono ?_; rintro e wn ⟨rfl, hbn⟩; have hSz := bl_sz (bl_trans hB (by go_grown)) hbn; replace hB := bl_trans (bl_trans hB (by go_grown)) hbn; replace P := P.bel (bl_trans (by go_grown) hbn); replace Pc := P.c4; replace Q := Q.bel (bl_trans (by go_grown) hbn); replace Qc := Q.c2; clear hbn))
    go_ret
    exact ⟨ret_int (by simp [weightAt, h1]), (by first | (go_grown; done) | exact bl_trans hB (by go_grown))⟩
  · cases h2 : cellOk x y
    · go_enter Try.func24, Try.ntmps24
      go_wp2_with (first | (go_at_call 18; refine (PatternOk_i _ _ _ A c l _ hl (hr'.out.below (bl_trans hB (by go_grown)))).mono ?_; rintro e wn ⟨rfl, hbn⟩; have hSz := bl_sz (bl_trans hB (by go_grown)) hbn; replace hB := bl_trans (bl_trans hB (by go_grown)) hbn; replace P := P.bel (bl_trans (by go_grown) hbn); replace Pc := P.c4; replace Q := Q.bel (bl_trans (by go_grown) hbn); replace Qc := Q.c2; clear hbn) | (go_at_call 102; refine (CellOk_i _ _ _).mono ?_; rintro e wn ⟨rfl, hbn⟩; have hSz := bl_sz (bl_trans hB (by go_grown)) hbn; replace hB := bl_trans (bl_trans hB (by go_grown)) hbn; replace P := P.bel (bl_trans (by go_grown) hbn); replace Pc := P.c4; replace Q := Q.bel (bl_trans (by go_grown) hbn); replace Qc := Q.c2; clear hbn))
      go_ret
      exact ⟨ret_int (by simp [weightAt, h2]), (by first | (go_grown; done) | exact bl_trans hB (by go_grown))⟩
    · have p1 := patOk_true h1
      have p2 := weight_facts p1.1 p1.2.1 p1.2.2.1 p1.2.2.2.1 h2
      have n1 : (b == 0) = false := by simp; omega
      have n2 : (a == 0) = false := by simp; omega
      have n3 : b ≠ 0 := by omega
      have n4 : a ≠ 0 := by omega
      obtain ⟨k, hk⟩ : ∃ k : Nat, weightIdx a b x y = (k : Int) := ⟨(weightIdx a b x y).toNat, by omega⟩
      have hw1 : IntKind.i64.wrap (y.tmod b * a) = y.tmod b * a := IntWalk.i64_in _ ⟨by omega, by omega⟩
      have hwr : IntKind.i64.wrap (IntKind.i64.wrap (y.tmod b * a) + x.tmod a) = (k : Int) := by rw [hw1, ← hk]; exact IntWalk.i64_in _ ⟨by have := p2.2.2.2.2.2.2.1; unfold weightIdx at this; omega, by have := p2.2.2.2.2.1; omega⟩
      have hlt : k < l.length := by omega
      obtain ⟨b', off, v, rfl, hbl, hx, hd, _, hc⟩ := hr'.out.at_ (k := k) hlt
      have hv : weightAt a b m l x y = v := by simp [weightAt, h1, h2, hk, hx]
      clear hw1 hd hx p1 p2 hk
      rw [hv]
      go_enter Try.func24, Try.ntmps24
      go_wp2_with (first | (go_at_call 18; refine (PatternOk_i _ _ _ _ c l _ hl (hr'.out.below (bl_trans hB (by go_grown)))).mono ?_; rintro e wn ⟨rfl, hbn⟩; have hSz := bl_sz (bl_trans hB (by go_grown)) hbn; replace hB := bl_trans (bl_trans hB (by go_grown)) hbn; replace P := P.bel (bl_trans (by go_grown) hbn); replace Pc := P.c4; replace Q := Q.bel (bl_trans (by go_grown) hbn); replace Qc := Q.c2; clear hbn) | (go_at_call 102; refine (CellOk_i _ _ _).mono ?_; rintro e wn ⟨rfl, hbn⟩; have hSz := bl_sz (bl_trans hB (by go_grown)) hbn; replace hB := bl_trans (bl_trans hB (by go_grown)) hbn; replace P := P.bel (bl_trans (by go_grown) hbn); replace Pc := P.c4; replace Q := Q.bel (bl_trans (by go_grown) hbn); replace Qc := Q.c2; clear hbn))
      have hcn := (hB.cell (p := ⟨b', off + k, none⟩) hbl).trans hc
      go_quiet (fail)
      go_wp2
      go_ret
      exact ⟨rfl, bl_drewN hB _⟩
end Go.Proofs.Ytdcjhfmkkcakhaa

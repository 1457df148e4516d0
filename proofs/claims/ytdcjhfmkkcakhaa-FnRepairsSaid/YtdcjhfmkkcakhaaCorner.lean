/-
  Contracts of CornerOk and CornerCells (both): what each returns, as a function of its arguments; nothing that was there is written; no statement is proved here; no condition.
-/
import Derived.Test.YtdcjhfmkkcakhaaNum
import Derived.Test.YtdcjhfmkkcakhaaOwn
namespace Go.Proofs.Ytdcjhfmkkcakhaa
open Go.ChangeShapes Go.WideShapes Go.ChangeAt Go.RowKit Go.Deep
set_option linter.unusedVariables false

def cornerOk (x y z : Int) : Bool := inB x 0 6 && inB y 0 6 && inB z 0 3
theorem cornerOk_iff {x y z : Int} : cornerOk x y z = true ↔ (0 ≤ x ∧ x ≤ 6) ∧ (0 ≤ y ∧ y ≤ 6) ∧ 0 ≤ z ∧ z ≤ 3 := by simp [cornerOk, inB, and_assoc]
def ccUpto (x y z : Int) (k : Nat) : List (Int × Int) := ((List.range k).filter fun (j : Nat) => decide ((j : Int) ≠ z)).map fun (j : Nat) => (x + (j : Int) % 2, y + (j : Int) / 2)
def cornerCells (x y z : Int) : List (Int × Int) := if cornerOk x y z then ccUpto x y z 4 else []
theorem ccUpto_len (x y z : Int) (k : Nat) : (ccUpto x y z k).length ≤ k := by
  unfold ccUpto
  rw [List.length_map]
  exact Nat.le_trans (List.length_filter_le _ _) (by simp)
theorem ccUpto_succ (x y z : Int) (k : Nat) : ccUpto x y z (k + 1) = ccUpto x y z k ++ (if (k : Int) = z then [] else [(x + (k : Int) % 2, y + (k : Int) / 2)]) := by
  unfold ccUpto
  rw [List.range_succ, List.filter_append, List.map_append]
  by_cases h : (k : Int) = z <;> simp [h]
theorem CornerOk_i (x y z : Int) (w : World) :
    Calls Try.prog 40 #[.agg #[.int .i64 x, .int .i64 y, .int .i64 z]] w fun e w' => e = .returned (.bool (cornerOk x y z)) ∧ Below w.heap.size w w' := by
  go_enter Try.func40, Try.ntmps40
  go_wp2_with (go_at_call 89; refine (within_any _ _ _ _).mono ?_; rintro e wn ⟨rfl, rfl⟩)
  all_goals go_ret
  all_goals exact ⟨by simp_all [cornerOk], by go_grown⟩
set_option maxHeartbeats 1000000 in
theorem CornerCells_i (x y z : Int) (w : World) :
    Calls Try.prog 41 #[.agg #[.int .i64 x, .int .i64 y, .int .i64 z]] w fun e w' => ∃ v, e = .returned v ∧ OwC w.heap.size w' v (cornerCells x y z) ∧ Below w.heap.size w w' := by
  (have hB := Below.refl w.heap.size w; have P := Blk.new w 68 [.int .i64 x, .int .i64 y, .int .i64 z]; have Pc := P.c3)
  cases h : cornerOk x y z
  · have hcc : cornerCells x y z = [] := by simp [cornerCells, h]
    rw [hcc]
    clear hcc
    go_enter Try.func41, Try.ntmps41
    go_wp2_with (go_at_call 40; refine (CornerOk_i _ _ _ _).mono ?_; rintro e wn ⟨rfl, hbn⟩; have hSz := bl_sz (bl_trans hB (by go_grown)) hbn; replace hB := bl_trans (bl_trans hB (by go_grown)) hbn; replace P := P.bel (bl_trans (by go_grown) hbn); replace Pc := P.c3; clear hbn)
    go_ret
    exact ⟨_, rfl, OwC.nil_ _ _, (by first | (go_grown; done) | exact bl_trans hB (by go_grown))⟩
  · have hcc : cornerCells x y z = ccUpto x y z 4 := by simp [cornerCells, h]
    rw [hcc]
    clear hcc
    obtain ⟨i1, i2, i3⟩ := cornerOk_iff.1 h
    go_enter Try.func41, Try.ntmps41
    go_wp2_with (go_at_call 40; refine (CornerOk_i _ _ _ _).mono ?_; rintro e wn ⟨rfl, hbn⟩; have hSz := bl_sz (bl_trans hB (by go_grown)) hbn; replace hB := bl_trans (bl_trans hB (by go_grown)) hbn; replace P := P.bel (bl_trans (by go_grown) hbn); replace Pc := P.c3; clear hbn)
    go_loopw [3, 9] (fun v i wr => ∃ k : Nat, k ≤ 4 ∧ i = .int .i64 k ∧ OwC (w.heap.size + 1) wr v (ccUpto x y z k) ∧ Blk wr w.heap.size 68 [.int .i64 x, .int .i64 y, .int .i64 z] ∧ Below w.heap.size w wr) (fun _ i _ => 4 - (intOf i).toNat)
    case atStart => exact ⟨0, by omega, rfl, OwC.new_ P.lt, P.alloc _, bl_alloc hB _⟩
    case round =>
      obtain ⟨k, hk, rfl, hown, P', hb⟩ := hrel
      have Pc' := P'.c3
      clear Pc P hB
      by_cases hlt : k < 4
      · have hs := Lib.hid (ccUpto_succ x y z k)
        have HP := Lib.hid P'
        have Hb := Lib.hid hb
        have hlen := ccUpto_len x y z k
        have hsz := P'.lt
        clear P' hb
        by_cases hkz : (k : Int) = z
        · have hne : ((k : Int) != z) = false := by simp [hkz]
          have hkz' := Lib.hid hkz
          have Ho := Lib.hid hown
          clear hkz hown
          go_wp2
          go_roundw
          case rel => exact ⟨k + 1, by omega, by go_num, by rw [hs.out, if_pos hkz'.out, List.append_nil]; exact Ho.out, HP.out, Hb.out⟩
          case measure => simp [intOf]; omega
        · have hne : ((k : Int) != z) = true := by simp [hkz]
          have hkz' := Lib.hid hkz
          have Ho := Lib.hid hown
          clear hkz hown
          go_wp2_with (at_builtin; refine wpList_appC rfl (.tmp 16) (.tmp 28) rfl (w.heap.size + 1) _ (ccUpto x y z k) (x + (k : Int) % 2) (y + (k : Int) / 2) rfl rfl Ho.out hsz (by omega) ⟨by omega, by omega⟩ ⟨by omega, by omega⟩ ?_; intro v' w1 ho1 hb1 hg1)
          go_roundw
          case rel => exact ⟨k + 1, by omega, by go_num, by rw [hs.out, if_neg hkz'.out]; exact ho1, HP.out.below (hb1 _ (Below.refl _ _)) (by omega), Hb.out.trans ((hb1 _ (Below.refl _ _)).mono (by omega))⟩
          case measure => simp [intOf]; omega
      · have hk4 : k = 4 := by omega
        subst hk4
        go_wp2
        go_ret
        exact ⟨_, rfl, hown.mono (by omega), hb⟩
end Go.Proofs.Ytdcjhfmkkcakhaa

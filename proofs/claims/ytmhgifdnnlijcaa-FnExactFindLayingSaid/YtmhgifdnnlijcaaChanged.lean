/-
  Contracts of the functions on changed cells (covered, ChangedCells, both): what each returns, as a function of its arguments; nothing that was there is written; lists of at most 1048576.
-/
import Derived.Test.YtmhgifdnnlijcaaDoms
import Derived.Test.YtmhgifdnnlijcaaMarks
import Derived.Test.YtmhgifdnnlijcaaSets
import Derived.Test.YtmhgifdnnlijcaaIn
namespace Go.Proofs.Ytmhgifdnnlijcaa
open Go.ChangeShapes Go.WideShapes Go.ChangeAt Go.RowKit Go.Deep
set_option linter.unusedVariables false

def covStep (s : Nat) (d : Dm) : Nat := if domOk d.1 d.2.1 d.2.2 then s ||| setD d.1 d.2.1 d.2.2 else s
def covers (l : List Dm) : Nat := l.foldl covStep 0
theorem covers_snoc (l : List Dm) (d : Dm) : covers (l ++ [d]) = covStep (covers l) d := by simp [covers]
theorem covers_lt (l : List Dm) : covers l < 18446744073709551616 := by
  have : ∀ (l : List Dm) (s : Nat), s < 18446744073709551616 → l.foldl covStep s < 18446744073709551616 := by
    intro l
    induction l with
    | nil => intro s h; exact h
    | cons d l ih =>
      intro s h
      apply ih
      unfold covStep
      split
      · rename_i hd; exact or_lt h (setD_lt hd)
      · exact h
  exact this l 0 (by decide)
def gone (a b : List Dm) : List Dm := a.filter fun d => decide (d ∉ b)
theorem gone_snoc (a b : List Dm) (d : Dm) : gone (a ++ [d]) b = gone a b ++ (if d ∈ b then [] else [d]) := by
  unfold gone
  rw [List.filter_append]
  by_cases h : d ∈ b <;> simp [h]
theorem gone_len (a b : List Dm) : (gone a b).length ≤ a.length := List.length_filter_le _ _
def changed (a b : List Dm) : List (Int × Int) := cellsBy (covers (gone a b)).testBit 64
theorem changed_len (a b : List Dm) : (changed a b).length ≤ 64 := cellsBy_len _ _
set_option maxHeartbeats 1000000 in
theorem covered_any (A : Option Addr) (c : Nat) (l : List Dm) (w : World) (hl : l.length ≤ 1048576) (hr : RdD w A l) :
    Calls Try.prog 113 #[.slice A l.length c] w fun e w' => e = .returned (.int .u64 (covers l)) ∧ Below w.heap.size w w' := by
  have hr' := Lib.hid hr
  clear hr
  go_enter Try.func113, Try.ntmps113
  go_wp2
  go_loopw [3, 8] (fun s i wr => ∃ k : Nat, k ≤ l.length ∧ i = .int .i64 k ∧ s = .int .u64 (covers (l.take k) : Int) ∧ Below w.heap.size w wr) (fun _ i _ => l.length - (intOf i).toNat)
  case atStart => exact ⟨0, by omega, rfl, rfl, Below.refl _ _⟩
  case round =>
    obtain ⟨k, hk, rfl, rfl, hB⟩ := hrel
    by_cases hlt : k < l.length
    · obtain ⟨b', off, x, y, z, rfl, hbl, hv, hd, _, _, c0, c1, c2⟩ := (hr'.out.below hB).at_ hlt
      have hsl := covers_lt (l.take k)
      have Q := Blk.new wr 65 [.int .i64 x, .int .i64 y, .bool z]
      have Qc := Q.c3
      cases hin : domOk x y z
      · have hs := Lib.hid (show covers (l.take (k + 1)) = covers (l.take k) by rw [take_snoc_at hv, covers_snoc, covStep, hin, if_neg (by decide)])
        clear hv hd
        go_wp2_with (go_at_call 102; refine (DominoOk_i _ _ _ _).mono ?_; rintro e wn ⟨rfl, hbn⟩; have hSz := bl_sz (bl_trans hB (by go_grown)) hbn; replace hB := bl_trans (bl_trans hB (by go_grown)) hbn; replace Q := Q.bel (bl_trans (by go_grown) hbn); replace Qc := Q.c3; clear hbn)
        go_roundw
        case rel => exact ⟨k + 1, by omega, by go_num, by rw [hs.out], hB⟩
        case measure => simp [intOf]; omega
      · have hs := Lib.hid (show covers (l.take (k + 1)) = covers (l.take k) ||| setD x y z by rw [take_snoc_at hv, covers_snoc, covStep, hin, if_pos rfl])
        have hdl := setD_lt hin
        have hor := Lib.hid (u64_or_nat _ _ hsl hdl)
        clear hv hd
        go_wp2_with (first | (go_at_call 102; refine (DominoOk_i _ _ _ _).mono ?_; rintro e wn ⟨rfl, hbn⟩; have hSz := bl_sz (bl_trans hB (by go_grown)) hbn; replace hB := bl_trans (bl_trans hB (by go_grown)) hbn; replace Q := Q.bel (bl_trans (by go_grown) hbn); replace Qc := Q.c3; clear hbn) | (go_at_call 136; refine (dset_any _ _ _ _ hin).mono ?_; rintro e wn ⟨rfl, hbn⟩; have hSz := bl_sz (bl_trans hB (by go_grown)) hbn; replace hB := bl_trans (bl_trans hB (by go_grown)) hbn; replace Q := Q.bel (bl_trans (by go_grown) hbn); replace Qc := Q.c3; clear hbn))
        go_roundw
        case rel => exact ⟨k + 1, by omega, by go_num, by rw [hs.out, ← hor.out], hB⟩
        case measure => simp [intOf]; omega
    · have hkl : k = l.length := by omega
      subst hkl
      go_wp2
      go_ret
      exact ⟨ret_int (by rw [List.take_length]), hB⟩
end Go.Proofs.Ytmhgifdnnlijcaa

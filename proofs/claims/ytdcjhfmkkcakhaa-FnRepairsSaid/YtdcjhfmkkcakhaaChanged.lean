/-
  Contracts of the functions on changed cells (covered, ChangedCells, both): what each returns, as a function of its arguments; nothing that was there is written; lists of at most 1048576.
-/
import Derived.Test.YtdcjhfmkkcakhaaDoms
import Derived.Test.YtdcjhfmkkcakhaaMarks
import Derived.Test.YtdcjhfmkkcakhaaSets
import Derived.Test.YtdcjhfmkkcakhaaIn
namespace Go.Proofs.Ytdcjhfmkkcakhaa
open Go.ChangeShapes Go.WideShapes Go.ChangeAt Go.RowKit Go.Deep
set_option linter.unusedVariables false

def covStep (s : Nat) (d : Dm) : Nat := if domOk d.1 d.2.1 d.2.2 then s ||| setD d.1 d.2.1 d.2.2 else s
def covers (l : List Dm) : Nat := l.foldl covStep 0
theorem covers_snoc (l : List Dm) (d : Dm) : covers (l ++ [d]) = covStep (covers l) d := by simp [covers]
theorem covers_lt (l : List Dm) : covers l < 18446744073709551616 := by
  have : ∀ (l : List Dm) (s : Nat), s < 18446744073709551616 → l.foldl covStep s < 18446744073709551616 := by
    intro l
    induction l with
    | nil => intro s h; exact h
    | cons d l ih =>
      intro s h
      apply ih
      unfold covStep
      split
      · rename_i hd; exact or_lt h (setD_lt hd)
      · exact h
  exact this l 0 (by decide)
def gone (a b : List Dm) : List Dm := a.filter fun d => decide (d ∉ b)
theorem gone_snoc (a b : List Dm) (d : Dm) : gone (a ++ [d]) b = gone a b ++ (if d ∈ b then [] else [d]) := by
  unfold gone
  rw [List.filter_append]
  by_cases h : d ∈ b <;> simp [h]
theorem gone_len (a b : List Dm) : (gone a b).length ≤ a.length := List.length_filter_le _ _
def changed (a b : List Dm) : List (Int × Int) := cellsBy (covers (gone a b)).testBit 64
theorem changed_len (a b : List Dm) : (changed a b).length ≤ 64 := cellsBy_len _ _
set_option maxHeartbeats 1000000 in
theorem covered_any (A : Option Addr) (c : Nat) (l : List Dm) (w : World) (hl : l.length ≤ 1048576) (hr : RdD w A l) :
    Calls Try.prog 117 #[.slice A l.length c] w fun e w' => e = .returned (.int .u64 (covers l)) ∧ Below w.heap.size w w' := by
  have hr' := Lib.hid hr
  clear hr
  go_enter Try.func117, Try.ntmps117
  go_wp2
  go_loopw [3, 8] (fun s i wr => ∃ k : Nat, k ≤ l.length ∧ i = .int .i64 k ∧ s = .int .u64 (covers (l.take k) : Int) ∧ Below w.heap.size w wr) (fun _ i _ => l.length - (intOf i).toNat)
  case atStart => exact ⟨0, by omega, rfl, rfl, Below.refl _ _⟩
  case round =>
    obtain ⟨k, hk, rfl, rfl, hB⟩ := hrel
    by_cases hlt : k < l.length
    · obtain ⟨b', off, x, y, z, rfl, hbl, hv, hd, _, _, c0, c1, c2⟩ := (hr'.out.below hB).at_ hlt
      have hsl := covers_lt (l.take k)
      have Q := Blk.new wr 53 [.int .i64 x, .int .i64 y, .bool z]
      have Qc := Q.c3
      cases hin : domOk x y z
      · have hs := Lib.hid (show covers (l.take (k + 1)) = covers (l.take k) by rw [take_snoc_at hv, covers_snoc, covStep, hin, if_neg (by decide)])
        clear hv hd
        go_wp2_with (go_at_call 143; refine (DominoOk_i _ _ _ _).mono ?_; rintro e wn ⟨rfl, hbn⟩; have hSz := bl_sz (bl_trans hB (by go_grown)) hbn; replace hB := bl_trans (bl_trans hB (by go_grown)) hbn; replace Q := Q.bel (bl_trans (by go_grown) hbn); replace Qc := Q.c3; clear hbn)
        go_roundw
        case rel => exact ⟨k + 1, by omega, by go_num, by rw [hs.out], hB⟩
        case measure => simp [intOf]; omega
      · have hs := Lib.hid (show covers (l.take (k + 1)) = covers (l.take k) ||| setD x y z by rw [take_snoc_at hv, covers_snoc, covStep, hin, if_pos rfl])
        have hdl := setD_lt hin
        have hor := Lib.hid (u64_or_nat _ _ hsl hdl)
        clear hv hd
        go_wp2_with (first | (go_at_call 143; refine (DominoOk_i _ _ _ _).mono ?_; rintro e wn ⟨rfl, hbn⟩; have hSz := bl_sz (bl_trans hB (by go_grown)) hbn; replace hB := bl_trans (bl_trans hB (by go_grown)) hbn; replace Q := Q.bel (bl_trans (by go_grown) hbn); replace Qc := Q.c3; clear hbn) | (go_at_call 190; refine (dset_any _ _ _ _ hin).mono ?_; rintro e wn ⟨rfl, hbn⟩; have hSz := bl_sz (bl_trans hB (by go_grown)) hbn; replace hB := bl_trans (bl_trans hB (by go_grown)) hbn; replace Q := Q.bel (bl_trans (by go_grown) hbn); replace Qc := Q.c3; clear hbn))
        go_roundw
        case rel => exact ⟨k + 1, by omega, by go_num, by rw [hs.out, ← hor.out], hB⟩
        case measure => simp [intOf]; omega
    · have hkl : k = l.length := by omega
      subst hkl
      go_wp2
      go_ret
      exact ⟨ret_int (by rw [List.take_length]), hB⟩
set_option maxHeartbeats 2000000 in
theorem ChangedCells_i (A B : Option Addr) (c d : Nat) (a b : List Dm) (w : World) (ha : a.length ≤ 1048576) (hb : b.length ≤ 1048576) (hr : RdD w A a) (hs : RdD w B b) :
    Calls Try.prog 37 #[.slice A a.length c, .slice B b.length d] w fun e w' => ∃ v, e = .returned v ∧ OwC w.heap.size w' v (changed a b) ∧ Below w.heap.size w w' := by
  have hr' := Lib.hid hr
  have hs' := Lib.hid hs
  have hB := bl_alloc (Below.refl w.heap.size w) (.cells #[] 53)
  have ho := Lib.hid (OwD.new_ (B := w.heap.size) (w := w) (Nat.le_refl _))
  clear hr hs
  go_enter Try.func37, Try.ntmps37
  go_wp2
  go_loopw [5, 11] (fun v i wr => ∃ k : Nat, k ≤ a.length ∧ i = .int .i64 k ∧ OwD w.heap.size wr v (gone (a.take k) b) ∧ Below w.heap.size w wr) (fun _ i _ => a.length - (intOf i).toNat)
  case atStart => exact ⟨0, by omega, rfl, ho.out, hB⟩
  case round =>
    obtain ⟨k, hk, rfl, own, hB'⟩ := hrel
    clear hB ho
    have hB := hB'
    clear hB'
    by_cases hlt : k < a.length
    · obtain ⟨b', off, x, y, z, rfl, hbl, hv, hd, ga, gb, c0, c1, c2⟩ := (hr'.out.below hB).at_ hlt
      have Q := Blk.new wr 53 [.int .i64 x, .int .i64 y, .bool z]
      have Qc := Q.c3
      have hgl := gone_len (a.take k) b
      have hgl2 : (a.take k).length ≤ 1048576 := by rw [List.length_take]; omega
      have hsn := Lib.hid (show gone (a.take (k + 1)) b = gone (a.take k) b ++ (if (x, y, z) ∈ b then [] else [(x, y, z)]) by rw [take_snoc_at hv, gone_snoc])
      have Ho := Lib.hid (own.alloc' (.cells #[.int .i64 x, .int .i64 y, .bool z] 53))
      clear own hv hd
      cases hin : decide ((x, y, z) ∈ b)
      · have hin2 := Lib.hid (of_decide_eq_false hin)
        go_wp2_with (first | (go_at_call 116; refine (hasDomino_any B d b x y z _ hb (hs'.out.below (bl_trans hB (by go_grown)))).mono ?_; rintro e wn ⟨rfl, hbn⟩; have hSz := bl_sz (bl_trans hB (by go_grown)) hbn; replace hB := bl_trans (bl_trans hB (by go_grown)) hbn; replace Q := Q.bel (bl_trans (by go_grown) hbn); replace Qc := Q.c3; replace Ho := Lib.hid (Ho.out.bel hbn); clear hbn) | (at_builtin; refine wpList_atD rfl (.tmp 19) (.tmp 21) rfl w.heap.size _ (gone (a.take k) b) x y z rfl rfl Ho.out hB.size (by omega) ga gb ?_; intro v' w1 ho1 hb1 hg1 hat1 hsz1))
        go_roundw
        case rel => exact ⟨k + 1, by omega, by go_num, by rw [hsn.out, if_neg hin2.out]; exact ho1, hb1 _ hB⟩
        case measure => simp [intOf]; omega
      · have hin2 := Lib.hid (of_decide_eq_true hin)
        go_wp2_with (go_at_call 116; refine (hasDomino_any B d b x y z _ hb (hs'.out.below (bl_trans hB (by go_grown)))).mono ?_; rintro e wn ⟨rfl, hbn⟩; have hSz := bl_sz (bl_trans hB (by go_grown)) hbn; replace hB := bl_trans (bl_trans hB (by go_grown)) hbn; replace Q := Q.bel (bl_trans (by go_grown) hbn); replace Qc := Q.c3; replace Ho := Lib.hid (Ho.out.bel hbn); clear hbn)
        go_roundw
        case rel => exact ⟨k + 1, by omega, by go_num, by rw [hsn.out, if_pos hin2.out, List.append_nil]; exact Ho.out, hB⟩
        case measure => simp [intOf]; omega
    · have hkl : k = a.length := by omega
      subst hkl
      rw [List.take_length] at own
      obtain ⟨⟨A1, c1, rfl⟩, _⟩ := id own
      have hgl := gone_len a b
      have R := Lib.hid own.rd
      have hlt2 := covers_lt (gone a b)
      clear own
      go_wp2_with fail
      (refine (covered_any A1 c1 (gone a b) _ (by omega) (R.out.below (by go_grown))).mono ?_; rintro e wn ⟨rfl, hbn⟩; have hSz := bl_sz (bl_trans hB (by go_grown)) hbn; replace hB := bl_trans (bl_trans hB (by go_grown)) hbn; clear hbn)
      go_wp2_with fail
      (refine (cells_any (covers (gone a b)) _ hlt2).mono ?_; rintro e wn ⟨v, rfl, o1, hbn⟩; have hSz := bl_sz (bl_trans hB (by go_grown)) hbn; replace hB := bl_trans (bl_trans hB (by go_grown)) hbn; clear hbn)
      go_wp2_with fail
      go_ret
      exact ⟨_, rfl, o1.mono hSz, hB⟩
end Go.Proofs.Ytdcjhfmkkcakhaa

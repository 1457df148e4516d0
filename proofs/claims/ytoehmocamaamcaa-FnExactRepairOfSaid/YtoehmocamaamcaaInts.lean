/-
  Contracts of functions over slices of integers (toIntS, eqIntS, allWithin, isStrict): what each returns, as a function of the list; nothing that was there is written; lists of at most 1048576 numbers.
-/
import Derived.Test.YtoehmocamaamcaaNum
namespace Go.Proofs.Ytoehmocamaamcaa
open Go.ChangeShapes Go.WideShapes Go.ChangeAt Go.RowKit Go.Deep
set_option linter.unusedVariables false

theorem info_int : (Try.prog.info? 3).map (fun i => (i.zero, i.size, i.bytes)) = some (some (.int .i64 0), 1, 8) := by kernel_rfl

theorem toIntS_step {w wr : World} {g k : Nat} {l : List Int} {x : Int} (hx : l[k]? = some x) (h : Blk wr g 3 ((l.take k).map cI ++ List.replicate (l.length - k) (cI 0))) (hb : Below w.heap.size w wr) (hg : w.heap.size ≤ g) :
    Blk (wr.setCell ⟨g, k, none⟩ (.int .i64 x)) g 3 ((l.take (k + 1)).map cI ++ List.replicate (l.length - (k + 1)) (cI 0)) ∧ Below w.heap.size w (wr.setCell ⟨g, k, none⟩ (.int .i64 x)) := by
  obtain ⟨hk, hx'⟩ := List.getElem?_eq_some_iff.1 hx
  refine ⟨?_, hb.setCell (by exact hg) _⟩
  have := h.set_ k (.int .i64 x)
  have e : ((l.take k).map cI ++ List.replicate (l.length - k) (cI 0)).set k (Value.int .i64 x) = (l.take (k + 1)).map cI ++ List.replicate (l.length - (k + 1)) (cI 0) := by
    have hl : ((l.take k).map cI).length = k := by simp; omega
    rw [List.set_append_right _ _ (by omega), hl, Nat.sub_self, show l.length - k = (l.length - (k + 1)) + 1 by omega, List.replicate_succ, List.set_cons_zero,
      List.take_succ_eq_append_getElem hk, hx', List.map_append, List.append_assoc]
    rfl
  rw [e] at this
  exact this
theorem toIntS_any (A : Option Addr) (c : Nat) (l : List Int) (w : World) (hl : l.length ≤ 1048576) (hr : RdI w A l) :
    Calls Try.prog 57 #[.slice A l.length c] w fun e w' => ∃ v, e = .returned v ∧ OwI w.heap.size w' v l ∧ Below w.heap.size w w' := by
  have hmk := run_make_row' (P := Try.prog) 29 3 (.int .i64 0) 8 Try.underlying29 info_int rfl .i64 .i64 l.length (by omega) (by omega)
  go_enter Try.func57, Try.ntmps57
  go_wp2
  rw [made_list]
  go_loopw [4] (fun i wr => ∃ k : Nat, k ≤ l.length ∧ i = .int .i64 k ∧ Blk wr w.heap.size 3 ((l.take k).map cI ++ List.replicate (l.length - k) (cI 0)) ∧ Below w.heap.size w wr) (fun i _ => l.length - (intOf i).toNat)
  case atStart => exact ⟨0, by omega, rfl, (by simp only [List.take_zero, List.map_nil, List.nil_append, Nat.sub_zero]; exact Blk.new w 3 (List.replicate l.length (cI 0))), bl_alloc (Below.refl _ _) _⟩
  case round =>
    obtain ⟨k, hk, rfl, hblk, hb⟩ := hrel
    by_cases hlt : k < l.length
    · obtain ⟨b, off, x, hA, hbl, hx, _, _, hc⟩ := hr.at_ hlt
      subst hA
      have hc' : wr.cell? ⟨b, off + k, none⟩ = some (.int .i64 x) := (hb.cell (p := ⟨b, off + k, none⟩) hbl).trans hc
      have hw' : ∃ u, wr.cell? ⟨w.heap.size, k, none⟩ = some u := by rw [hblk.cell]; exact ⟨_, List.getElem?_eq_getElem (by simp; omega)⟩
      obtain ⟨u, hu⟩ := hw'
      have hf := hblk.frozen k
      have H := Lib.hid (toIntS_step hx hblk hb (Nat.le_refl _))
      clear hx hblk hb hc hmk hr
      go_wp2
      go_roundw
      case rel => exact ⟨k + 1, by omega, by go_num, H.out.1, H.out.2⟩
      case measure => simp [intOf]; omega
    · have hkl : k = l.length := by omega
      subst hkl
      have hb2 : Blk wr w.heap.size 3 (l.map cI) := by simpa using hblk
      have H := Lib.hid hb2
      clear hmk hblk hb2
      go_wp2
      go_ret
      exact ⟨.slice (some ⟨w.heap.size, 0, none⟩) l.length l.length, rfl, ⟨⟨_, _, rfl⟩, H.out.own (Nat.le_refl _) (by simp) (by simp only [maxLen]; omega), hr.2⟩, hb⟩
theorem eqIntS_any (A B : Option Addr) (c d : Nat) (l m : List Int) (w : World) (hl : l.length ≤ 1048576) (hr : RdI w A l) (hs : RdI w B m) :
    Calls Try.prog 63 #[.slice A l.length c, .slice B m.length d] w fun e w' => e = .returned (.bool (decide (l = m))) ∧ Below w.heap.size w w' := by
  by_cases hlen : l.length = m.length
  · have hge : m.length ≤ l.length := by omega
    have hle : l.length ≤ m.length := by omega
    rw [← hlen]
    clear hlen
    go_enter Try.func63, Try.ntmps63
    go_wp2
    go_loopw [5] (fun i wr => ∃ k : Nat, k ≤ l.length ∧ i = .int .i64 k ∧ (decide (l = m)) = (decide (l.drop k = m.drop k)) ∧ Below w.heap.size w wr) (fun i _ => l.length - (intOf i).toNat)
    case atStart => exact ⟨0, by omega, rfl, by simp, Below.refl _ _⟩
    case round =>
      obtain ⟨k, hk, rfl, hall, hb⟩ := hrel
      by_cases hlt : k < l.length
      · obtain ⟨b1, o1, x, hA, hbl, hx, hd, _, hc⟩ := (hr.below hb).at_ hlt
        obtain ⟨b2, o2, y, hB, hbl2, hy, hd2, _, hc2⟩ := (hs.below hb).at_ (k := k) (by omega)
        subst hA
        subst hB
        rw [hd, hd2] at hall
        have q1 := bq_cell hc
        have q2 := bq_cell hc2
        have H := Lib.hid hall
        have hb0 := Lib.hid hb
        clear hr hs hall hd hd2 hx hy hc hc2 hb
        by_cases he : x = y
        · have hne : (!(x == y)) = false := by simp [he]
          go_wp2
          (refine wp_region_quiet_bel (by kernel_rfl) (by kernel_rfl) ?_; (repeat (first | go_big_quiet_step (fail) | quiet_step (fail))); refine wpQuiet_nil ?_; intro wq hw0; obtain ⟨⟨_, hbq⟩, hw1⟩ := hw0; subst hw1; try dsimp only)
          go_wp2
          go_roundw
          case rel => exact ⟨k + 1, by omega, by go_num, by rw [H.out]; simp [he], bl_trans hb0.out hbq⟩
          case measure => simp [intOf]; omega
        · have hne : (!(x == y)) = true := by simp [he]
          go_wp2
          (refine wp_region_quiet_bel (by kernel_rfl) (by kernel_rfl) ?_; (repeat (first | go_big_quiet_step (fail) | quiet_step (fail))); refine wpQuiet_nil ?_; intro wq hw0; obtain ⟨⟨_, hbq⟩, hw1⟩ := hw0; subst hw1; try dsimp only)
          go_wp2
          go_ret
          exact ⟨by rw [H.out]; simp [he], bl_trans hb0.out hbq⟩
      · have h1 : l.drop k = [] := List.drop_eq_nil_of_le (by omega)
        have h2 : m.drop k = [] := List.drop_eq_nil_of_le (by omega)
        rw [h1, h2] at hall
        have H := Lib.hid hall
        clear hall h1 h2 hr hs
        go_wp2
        go_ret
        exact ⟨by rw [H.out]; simp, hb⟩
  · go_enter Try.func63, Try.ntmps63
    go_wp2
    go_ret
    exact ⟨by simp; intro h; exact hlen (by rw [h]), Below.refl _ _⟩
theorem allWithin_any (A : Option Addr) (c : Nat) (l : List Int) (a b : Int) (w : World) (hl : l.length ≤ 1048576) (hr : RdI w A l) :
    Calls Try.prog 86 #[.slice A l.length c, .int .i64 a, .int .i64 b] w fun e w' => e = .returned (.bool (l.all fun x => inB x a b)) ∧ w = w' := by
  go_enter Try.func86, Try.ntmps86
  go_wp2
  go_loop [11] (fun i => ∃ k : Nat, k ≤ l.length ∧ i = .int .i64 k ∧ (l.all fun x => inB x a b) = ((l.drop k).all fun x => inB x a b)) (fun i => l.length - (intOf i).toNat)
  case atStart => exact ⟨0, by omega, rfl, rfl⟩
  case round =>
    obtain ⟨k, hk, rfl, hall⟩ := hrel
    by_cases hlt : k < l.length
    · obtain ⟨b', off, x, rfl, hb, hx, hd, hxr, hc⟩ := hr.at_ hlt
      rw [hd] at hall
      have H := Lib.hid hall
      clear hall hd hx hr
      cases hin : inB x a b
      · go_wp2_with (go_at_call 46; refine (within_any _ _ _ _).mono ?_; rintro e w' ⟨rfl, rfl⟩)
        go_ret
        exact ⟨by rw [H.out]; simp [hin], rfl⟩
      · go_wp2_with (go_at_call 46; refine (within_any _ _ _ _).mono ?_; rintro e w' ⟨rfl, rfl⟩)
        go_round
        case rel => exact ⟨k + 1, by omega, by go_num, by rw [H.out]; simp [hin]⟩
        case measure => simp [intOf]; omega
    · have h1 : l.drop k = [] := List.drop_eq_nil_of_le (by omega)
      rw [h1] at hall
      have H := Lib.hid hall
      clear hall h1 hr
      go_wp2
      go_ret
      exact ⟨by rw [H.out]; simp, rfl⟩
def szSub (left : Int) (n : Nat) : Int := if left - n < 0 then -1 else left - n
theorem szSub_le (left : Int) (n : Nat) (h1 : -1 ≤ left) (h2 : left ≤ 1048576) : -1 ≤ szSub left n ∧ szSub left n ≤ 1048576 := by unfold szSub; split <;> omega
theorem szSub_fits {left : Int} {n : Nat} (h : 0 ≤ szSub left n) : (n : Int) ≤ left ∧ szSub left n = left - n := by
  unfold szSub at *; split at h <;> simp_all <;> omega
theorem szIntS_any (A : Option Addr) (c n : Nat) (left : Int) (w : World) (h1 : -1 ≤ left) (h2 : left ≤ 1048576) (hn : n ≤ maxLen) :
    Calls Try.prog 53 #[.slice A n c, .int .i64 left] w fun e w' => e = .returned (.int .i64 (szSub left n)) ∧ w = w' := by
  unfold maxLen at hn
  by_cases h : left - n < 0
  · go_enter Try.func53, Try.ntmps53
    go_wp2
    go_ret
    exact ⟨ret_int (by unfold szSub; rw [if_pos h]), rfl⟩
  · go_enter Try.func53, Try.ntmps53
    go_wp2
    go_ret
    exact ⟨ret_int (by unfold szSub; rw [if_neg (by omega)]), rfl⟩
end Go.Proofs.Ytoehmocamaamcaa

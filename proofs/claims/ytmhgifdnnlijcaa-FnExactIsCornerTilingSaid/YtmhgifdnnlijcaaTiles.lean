/-
  The statements' own functions on slices of corner tiles (size, equality, copy): what each returns, as a function of its arguments; nothing that was there is written; at most 1048576 tiles.
-/
import Derived.Test.YtmhgifdnnlijcaaInts
import Derived.Test.YtmhgifdnnlijcaaConv
import Derived.Test.YtmhgifdnnlijcaaOwn
namespace Go.Proofs.Ytmhgifdnnlijcaa
open Go.ChangeShapes Go.WideShapes Go.ChangeAt Go.RowKit Go.Deep
set_option linter.unusedVariables false

theorem eqCorner_any (x y a b z u : Int) (w : World) :
    Calls Try.prog 81 #[.agg #[.int .i64 x, .int .i64 y, .int .i64 z], .agg #[.int .i64 a, .int .i64 b, .int .i64 u]] w fun e w' => e = .returned (.bool (decide ((x, y, z) = (a, b, u)))) ∧ Below w.heap.size w w' := by
  go_enter Try.func81, Try.ntmps81
  go_wp2
  all_goals go_ret
  all_goals exact ⟨ret_bool (by simp_all), by go_grown⟩
theorem szCornerS_any (A : Option Addr) (c n : Nat) (left : Int) (w : World) (h1 : -1 ≤ left) (h2 : left ≤ 1048576) (hn : n ≤ maxLen) :
    Calls Try.prog 25 #[.slice A n c, .int .i64 left] w fun e w' => e = .returned (.int .i64 (szSub left n)) ∧ w = w' := by
  unfold maxLen at hn
  by_cases h : left - n < 0
  · go_enter Try.func25, Try.ntmps25
    go_wp2
    go_ret
    exact ⟨ret_int (by unfold szSub; rw [if_pos h]), rfl⟩
  · go_enter Try.func25, Try.ntmps25
    go_wp2
    go_ret
    exact ⟨ret_int (by unfold szSub; rw [if_neg (by omega)]), rfl⟩
set_option maxHeartbeats 1000000 in
theorem eqCornerS_any (A B : Option Addr) (c d : Nat) (l m : List (Int × Int × Int)) (w : World) (hl : l.length ≤ 1048576) (hr : RdT w A l) (hs : RdT w B m) :
    Calls Try.prog 31 #[.slice A l.length c, .slice B m.length d] w fun e w' => e = .returned (.bool (decide (l = m))) ∧ Below w.heap.size w w' := by
  by_cases hlen : l.length = m.length
  · have hge : m.length ≤ l.length := by omega
    have hle : l.length ≤ m.length := by omega
    rw [← hlen]
    clear hlen
    go_enter Try.func31, Try.ntmps31
    go_wp2
    go_loopw [5] (fun i wr => ∃ k : Nat, k ≤ l.length ∧ i = .int .i64 k ∧ (decide (l = m)) = (decide (l.drop k = m.drop k)) ∧ Below w.heap.size w wr) (fun i _ => l.length - (intOf i).toNat)
    case atStart => exact ⟨0, by omega, rfl, by simp, Below.refl _ _⟩
    case round =>
      obtain ⟨k, hk, rfl, hall, hb⟩ := hrel
      by_cases hlt : k < l.length
      · obtain ⟨b1, o1, x, y, z, hA, hbl, hx, hd, _, _, _, c0, c1, c2⟩ := (hr.below hb).at_ hlt
        obtain ⟨b2, o2, a, b, u, hB, hbl2, hy, hd2, _, _, _, e0, e1, e2⟩ := (hs.below hb).at_ (k := k) (by omega)
        subst hA
        subst hB
        rw [hd, hd2] at hall
        have q0 := bq_cell c0
        have q1 := bq_cell c1
        have q2 := bq_cell c2
        have r0 := bq_cell e0
        have r1 := bq_cell e1
        have r2 := bq_cell e2
        have H := Lib.hid hall
        have hb0 := Lib.hid hb
        clear hr hs hall hd hd2 hx hy c0 c1 c2 e0 e1 e2 hb
        by_cases he : (x, y, z) = (a, b, u)
        · have hde : decide ((x, y, z) = (a, b, u)) = true := by simp only [decide_eq_true_eq]; exact he
          have he' := Lib.hid he
          clear he
          have hdd := Lib.hid hde
          clear hde
          go_wp2
          (refine wp_region_quiet_bel (by kernel_rfl) (by kernel_rfl) ?_; (repeat (first | go_big_quiet_step ((go_at_call 81; exact Calls.bel_of ((eqCorner_any _ _ _ _ _ _ _).mono (fun e w' h => ⟨h.1.trans (ret_bool hdd.out), h.2⟩)))) | quiet_step ((go_at_call 81; exact Calls.bel_of ((eqCorner_any _ _ _ _ _ _ _).mono (fun e w' h => ⟨h.1.trans (ret_bool hdd.out), h.2⟩)))))); refine wpQuiet_nil ?_; intro wq hw0; obtain ⟨⟨_, hbq⟩, hw1⟩ := hw0; subst hw1; try dsimp only)
          go_wp2
          go_roundw
          case rel => exact ⟨k + 1, by omega, by go_num, by rw [H.out]; simp only [List.cons.injEq, he'.out, true_and], bl_trans hb0.out hbq⟩
          case measure => simp [intOf]; omega
        · have hde : decide ((x, y, z) = (a, b, u)) = false := by simp only [decide_eq_false_iff_not]; exact he
          have he' := Lib.hid he
          clear he
          have hdd := Lib.hid hde
          clear hde
          go_wp2
          (refine wp_region_quiet_bel (by kernel_rfl) (by kernel_rfl) ?_; (repeat (first | go_big_quiet_step ((go_at_call 81; exact Calls.bel_of ((eqCorner_any _ _ _ _ _ _ _).mono (fun e w' h => ⟨h.1.trans (ret_bool hdd.out), h.2⟩)))) | quiet_step ((go_at_call 81; exact Calls.bel_of ((eqCorner_any _ _ _ _ _ _ _).mono (fun e w' h => ⟨h.1.trans (ret_bool hdd.out), h.2⟩)))))); refine wpQuiet_nil ?_; intro wq hw0; obtain ⟨⟨_, hbq⟩, hw1⟩ := hw0; subst hw1; try dsimp only)
          go_wp2
          go_ret
          exact ⟨ret_bool (by rw [H.out]; simp only [List.cons.injEq, he'.out, false_and, decide_false]), bl_trans hb0.out hbq⟩
      · have h1 : l.drop k = [] := List.drop_eq_nil_of_le (by omega)
        have h2 : m.drop k = [] := List.drop_eq_nil_of_le (by omega)
        rw [h1, h2] at hall
        have H := Lib.hid hall
        clear hall h1 h2 hr hs
        go_wp2
        go_ret
        exact ⟨ret_bool (by rw [H.out]; simp), hb⟩
  · go_enter Try.func31, Try.ntmps31
    go_wp2
    go_ret
    exact ⟨ret_bool (by simp; intro h; exact hlen (by rw [h])), Below.refl _ _⟩
theorem toCornerS_step {w wr : World} {g k : Nat} {l : List (Int × Int × Int)} {x y : Int} {z : Int} (hx : l[k]? = some (x, y, z)) (h : Blk wr g 89 ((l.take k).flatMap cT ++ (List.replicate (l.length - k) (0, 0, 0)).flatMap cT)) (hb : Below w.heap.size w wr) (hg : w.heap.size ≤ g) :
    Blk (((wr.setCell ⟨g, k * 3, none⟩ (.int .i64 x)).setCell ⟨g, k * 3 + 1, none⟩ (.int .i64 y)).setCell ⟨g, k * 3 + 2, none⟩ (.int .i64 z)) g 89 ((l.take (k + 1)).flatMap cT ++ (List.replicate (l.length - (k + 1)) (0, 0, 0)).flatMap cT) ∧
      Below w.heap.size w (((wr.setCell ⟨g, k * 3, none⟩ (.int .i64 x)).setCell ⟨g, k * 3 + 1, none⟩ (.int .i64 y)).setCell ⟨g, k * 3 + 2, none⟩ (.int .i64 z)) := by
  obtain ⟨hk, hx'⟩ := List.getElem?_eq_some_iff.1 hx
  refine ⟨?_, ((hb.setCell (by exact hg) _).setCell (by exact hg) _).setCell (by exact hg) _⟩
  have := ((h.set_ (k * 3) (.int .i64 x)).set_ (k * 3 + 1) (.int .i64 y)).set_ (k * 3 + 2) (.int .i64 z)
  have hl : ((l.take k).flatMap cT).length = k * 3 := by rw [flatMap_len cT 3 (fun _ => rfl), List.length_take]; congr 1; omega
  have e : ((((l.take k).flatMap cT ++ (List.replicate (l.length - k) (0, 0, 0)).flatMap cT).set (k * 3) (Value.int .i64 x)).set (k * 3 + 1) (Value.int .i64 y)).set (k * 3 + 2) (Value.int .i64 z) =
      (l.take (k + 1)).flatMap cT ++ (List.replicate (l.length - (k + 1)) (0, 0, 0)).flatMap cT := by
    rw [List.set_append_right _ _ (by omega), List.set_append_right _ _ (by omega), List.set_append_right _ _ (by omega), hl, show k * 3 - k * 3 = 0 by omega, show k * 3 + 1 - k * 3 = 1 by omega, show k * 3 + 2 - k * 3 = 2 by omega,
      show l.length - k = (l.length - (k + 1)) + 1 by omega, List.replicate_succ, List.take_succ_eq_append_getElem hk, hx', List.flatMap_append, List.append_assoc]
    rfl
  rw [e] at this
  exact this
theorem info_cor : (Try.prog.info? 89).map (fun i => (i.zero, i.size, i.bytes)) = some (some (.agg #[.int .i64 0, .int .i64 0, .int .i64 0]), 3, 24) := by kernel_rfl
set_option maxHeartbeats 1000000 in
theorem toCornerS_any (A : Option Addr) (c : Nat) (l : List (Int × Int × Int)) (w : World) (hl : l.length ≤ 1048576) (hr : RdT w A l) :
    Calls Try.prog 28 #[.slice A l.length c] w fun e w' => ∃ v, e = .returned v ∧ OwT w.heap.size w' v l ∧ Below w.heap.size w w' := by
  have hmk := run_make_structs (P := Try.prog) cT (0, 0, 0) 3 (by decide) (fun _ => rfl) 41 89 _ 24 Try.underlying41 info_cor rfl l.length (by omega) (by omega)
  have N := Blk.new w 89 ((List.replicate l.length (0, 0, 0)).flatMap cT)
  go_enter Try.func28, Try.ntmps28
  go_wp2
  go_loopw [4] (fun i wr => ∃ k : Nat, k ≤ l.length ∧ i = .int .i64 k ∧ Blk wr w.heap.size 89 ((l.take k).flatMap cT ++ (List.replicate (l.length - k) (0, 0, 0)).flatMap cT) ∧ Below w.heap.size w wr) (fun i _ => l.length - (intOf i).toNat)
  case atStart => exact ⟨0, by omega, rfl, by simpa only [List.take_zero, List.flatMap_nil, List.nil_append, Nat.sub_zero] using N, bl_alloc (Below.refl _ _) _⟩
  case round =>
    obtain ⟨k, hk, rfl, hblk, hb⟩ := hrel
    clear N hmk
    by_cases hlt : k < l.length
    · obtain ⟨b, off, x, y, z, hA, hbl, hx, hd, _, _, _, hc0, hc1, hc2⟩ := (hr.below hb).at_ hlt
      subst hA
      have hln : ((l.take k).flatMap cT ++ (List.replicate (l.length - k) (0, 0, 0)).flatMap cT).length = l.length * 3 := by
        rw [List.length_append, flatMap_len cT 3 (fun _ => rfl), flatMap_len cT 3 (fun _ => rfl), List.length_take, List.length_replicate, Nat.min_eq_left (by omega), ← Nat.add_mul]; congr 1; omega
      have H := Lib.hid hblk
      have hln' := Lib.hid hln
      have Hb := Lib.hid hb
      have hx' := Lib.hid hx
      clear hx hblk hb hr hd hln
      go_wp2_with (go_at_call 75; refine (toCorner_any _ _ _ _).mono ?_; rintro e wn ⟨rfl, hbn⟩; have H2 := H.out.bel hbn; obtain ⟨u0, hu0⟩ : ∃ u, wn.cell? ⟨w.heap.size, k * 3, none⟩ = some u := ⟨_, (H2.cell _).trans (List.getElem?_eq_getElem (by rw [hln'.out]; omega))⟩; obtain ⟨u1, hu1⟩ : ∃ u, wn.cell? ⟨w.heap.size, k * 3 + 1, none⟩ = some u := ⟨_, (H2.cell _).trans (List.getElem?_eq_getElem (by rw [hln'.out]; omega))⟩; obtain ⟨u2, hu2⟩ : ∃ u, wn.cell? ⟨w.heap.size, k * 3 + 2, none⟩ = some u := ⟨_, (H2.cell _).trans (List.getElem?_eq_getElem (by rw [hln'.out]; omega))⟩; have f0 := H2.frozen (k * 3); have f1 := H2.frozen (k * 3 + 1); have f2 := H2.frozen (k * 3 + 2); have HH := Lib.hid (toCornerS_step hx'.out H2 (bl_trans Hb.out hbn) (Nat.le_refl _)); clear H2)
      go_roundw
      case rel => exact ⟨k + 1, by omega, by go_num, HH.out.1, HH.out.2⟩
      case measure => simp [intOf]; omega
    · have hkl : k = l.length := by omega
      subst hkl
      have hb2 : Blk wr w.heap.size 89 (l.flatMap cT) := by simpa using hblk
      have H := Lib.hid hb2
      clear hblk hb2
      go_wp2
      go_ret
      exact ⟨.slice (some ⟨w.heap.size, 0, none⟩) l.length l.length, rfl, ⟨⟨_, _, rfl⟩, H.out.own (Nat.le_refl _) (flatMap_len cT 3 (fun _ => rfl) l) (by simp only [maxLen]; omega), hr.2⟩, hb⟩
end Go.Proofs.Ytmhgifdnnlijcaa

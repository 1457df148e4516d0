/-
  Contracts of functions over lists of cells (the laws' own copies, comparisons and marks): what each returns, as a function of the lists; what may be written is said; lists of at most 1048576.
-/
import Derived.Test.YthclolooidnniaaCell
import Derived.Test.YthclolooidnniaaConv
import Derived.Test.YthclolooidnniaaInts
import Derived.Test.YthclolooidnniaaOwn
namespace Go.Proofs.Ythclolooidnniaa
open Go.ChangeShapes Go.WideShapes Go.ChangeAt Go.RowKit Go.Deep
set_option linter.unusedVariables false

theorem eqCell_any (x y a b : Int) (w : World) :
    Calls Try.prog 69 #[.agg #[.int .i64 x, .int .i64 y], .agg #[.int .i64 a, .int .i64 b]] w fun e w' => e = .returned (.bool (decide ((x, y) = (a, b)))) ∧ Below w.heap.size w w' := by
  go_enter Try.func69, Try.ntmps69
  go_wp2
  all_goals go_ret
  all_goals exact ⟨ret_bool (by simp_all), by go_grown⟩
theorem szCellS_any (A : Option Addr) (c n : Nat) (left : Int) (w : World) (h1 : -1 ≤ left) (h2 : left ≤ 1048576) (hn : n ≤ maxLen) :
    Calls Try.prog 17 #[.slice A n c, .int .i64 left] w fun e w' => e = .returned (.int .i64 (szSub left n)) ∧ w = w' := by
  unfold maxLen at hn
  by_cases h : left - n < 0
  · go_enter Try.func17, Try.ntmps17
    go_wp2
    go_ret
    exact ⟨ret_int (by unfold szSub; rw [if_pos h]), rfl⟩
  · go_enter Try.func17, Try.ntmps17
    go_wp2
    go_ret
    exact ⟨ret_int (by unfold szSub; rw [if_neg (by omega)]), rfl⟩
set_option maxHeartbeats 1000000 in
theorem eqCellS_any (A B : Option Addr) (c d : Nat) (l m : List (Int × Int)) (w : World) (hl : l.length ≤ 1048576) (hr : RdC w A l) (hs : RdC w B m) :
    Calls Try.prog 25 #[.slice A l.length c, .slice B m.length d] w fun e w' => e = .returned (.bool (decide (l = m))) ∧ Below w.heap.size w w' := by
  by_cases hlen : l.length = m.length
  · have hge : m.length ≤ l.length := by omega
    have hle : l.length ≤ m.length := by omega
    rw [← hlen]
    clear hlen
    go_enter Try.func25, Try.ntmps25
    go_wp2
    go_loopw [5] (fun i wr => ∃ k : Nat, k ≤ l.length ∧ i = .int .i64 k ∧ (decide (l = m)) = (decide (l.drop k = m.drop k)) ∧ Below w.heap.size w wr) (fun i _ => l.length - (intOf i).toNat)
    case atStart => exact ⟨0, by omega, rfl, by simp, Below.refl _ _⟩
    case round =>
      obtain ⟨k, hk, rfl, hall, hb⟩ := hrel
      by_cases hlt : k < l.length
      · obtain ⟨b1, o1, x, y, hA, hbl, hx, hd, _, _, c0, c1⟩ := (hr.below hb).at_ hlt
        obtain ⟨b2, o2, a, b, hB, hbl2, hy, hd2, _, _, e0, e1⟩ := (hs.below hb).at_ (k := k) (by omega)
        subst hA
        subst hB
        rw [hd, hd2] at hall
        have q0 := bq_cell c0
        have q1 := bq_cell c1
        have r0 := bq_cell e0
        have r1 := bq_cell e1
        have H := Lib.hid hall
        have hb0 := Lib.hid hb
        clear hr hs hall hd hd2 hx hy c0 c1 e0 e1 hb
        by_cases he : (x, y) = (a, b)
        · have hde : decide ((x, y) = (a, b)) = true := by simp only [decide_eq_true_eq]; exact he
          have he' := Lib.hid he
          clear he
          have hdd := Lib.hid hde
          clear hde
          go_wp2
          (refine wp_region_quiet_bel (by kernel_rfl) (by kernel_rfl) ?_; (repeat (first | go_big_quiet_step ((go_at_call 69; exact Calls.bel_of ((eqCell_any _ _ _ _ _).mono (fun e w' h => ⟨h.1.trans (ret_bool hdd.out), h.2⟩)))) | quiet_step ((go_at_call 69; exact Calls.bel_of ((eqCell_any _ _ _ _ _).mono (fun e w' h => ⟨h.1.trans (ret_bool hdd.out), h.2⟩)))))); refine wpQuiet_nil ?_; intro wq hw0; obtain ⟨⟨_, hbq⟩, hw1⟩ := hw0; subst hw1; try dsimp only)
          go_wp2
          go_roundw
          case rel => exact ⟨k + 1, by omega, by go_num, by rw [H.out]; simp only [List.cons.injEq, he'.out, true_and], bl_trans hb0.out hbq⟩
          case measure => simp [intOf]; omega
        · have hde : decide ((x, y) = (a, b)) = false := by simp only [decide_eq_false_iff_not]; exact he
          have he' := Lib.hid he
          clear he
          have hdd := Lib.hid hde
          clear hde
          go_wp2
          (refine wp_region_quiet_bel (by kernel_rfl) (by kernel_rfl) ?_; (repeat (first | go_big_quiet_step ((go_at_call 69; exact Calls.bel_of ((eqCell_any _ _ _ _ _).mono (fun e w' h => ⟨h.1.trans (ret_bool hdd.out), h.2⟩)))) | quiet_step ((go_at_call 69; exact Calls.bel_of ((eqCell_any _ _ _ _ _).mono (fun e w' h => ⟨h.1.trans (ret_bool hdd.out), h.2⟩)))))); refine wpQuiet_nil ?_; intro wq hw0; obtain ⟨⟨_, hbq⟩, hw1⟩ := hw0; subst hw1; try dsimp only)
          go_wp2
          go_ret
          exact ⟨ret_bool (by rw [H.out]; simp only [List.cons.injEq, he'.out, false_and, decide_false]), bl_trans hb0.out hbq⟩
      · have h1 : l.drop k = [] := List.drop_eq_nil_of_le (by omega)
        have h2 : m.drop k = [] := List.drop_eq_nil_of_le (by omega)
        rw [h1, h2] at hall
        have H := Lib.hid hall
        clear hall h1 h2 hr hs
        go_wp2
        go_ret
        exact ⟨ret_bool (by rw [H.out]; simp), hb⟩
  · go_enter Try.func25, Try.ntmps25
    go_wp2
    go_ret
    exact ⟨ret_bool (by simp; intro h; exact hlen (by rw [h])), Below.refl _ _⟩
theorem toCellS_step {w wr : World} {g k : Nat} {l : List (Int × Int)} {x y : Int} (hx : l[k]? = some (x, y)) (h : Blk wr g 49 ((l.take k).flatMap cC ++ (List.replicate (l.length - k) (0, 0)).flatMap cC)) (hb : Below w.heap.size w wr) (hg : w.heap.size ≤ g) :
    Blk ((wr.setCell ⟨g, k * 2, none⟩ (.int .i64 x)).setCell ⟨g, k * 2 + 1, none⟩ (.int .i64 y)) g 49 ((l.take (k + 1)).flatMap cC ++ (List.replicate (l.length - (k + 1)) (0, 0)).flatMap cC) ∧
      Below w.heap.size w ((wr.setCell ⟨g, k * 2, none⟩ (.int .i64 x)).setCell ⟨g, k * 2 + 1, none⟩ (.int .i64 y)) := by
  obtain ⟨hk, hx'⟩ := List.getElem?_eq_some_iff.1 hx
  refine ⟨?_, (hb.setCell (by exact hg) _).setCell (by exact hg) _⟩
  have := (h.set_ (k * 2) (.int .i64 x)).set_ (k * 2 + 1) (.int .i64 y)
  have hl : ((l.take k).flatMap cC).length = k * 2 := by rw [flatMap_len cC 2 (fun _ => rfl), List.length_take]; congr 1; omega
  have e : (((l.take k).flatMap cC ++ (List.replicate (l.length - k) (0, 0)).flatMap cC).set (k * 2) (Value.int .i64 x)).set (k * 2 + 1) (Value.int .i64 y) =
      (l.take (k + 1)).flatMap cC ++ (List.replicate (l.length - (k + 1)) (0, 0)).flatMap cC := by
    rw [List.set_append_right _ _ (by omega), List.set_append_right _ _ (by omega), hl, show k * 2 - k * 2 = 0 by omega, show k * 2 + 1 - k * 2 = 1 by omega,
      show l.length - k = (l.length - (k + 1)) + 1 by omega, List.replicate_succ, List.take_succ_eq_append_getElem hk, hx', List.flatMap_append, List.append_assoc]
    rfl
  rw [e] at this
  exact this
theorem info_cell : (Try.prog.info? 49).map (fun i => (i.zero, i.size, i.bytes)) = some (some (.agg #[.int .i64 0, .int .i64 0]), 2, 16) := by kernel_rfl
set_option maxHeartbeats 1000000 in
theorem toCellS_any (A : Option Addr) (c : Nat) (l : List (Int × Int)) (w : World) (hl : l.length ≤ 1048576) (hr : RdC w A l) :
    Calls Try.prog 21 #[.slice A l.length c] w fun e w' => ∃ v, e = .returned v ∧ OwC w.heap.size w' v l ∧ Below w.heap.size w w' := by
  have hmk := run_make_structs (P := Try.prog) cC (0, 0) 2 (by decide) (fun _ => rfl) 36 49 _ 16 Try.underlying36 info_cell rfl l.length (by omega) (by omega)
  have N := Blk.new w 49 ((List.replicate l.length (0, 0)).flatMap cC)
  go_enter Try.func21, Try.ntmps21
  go_wp2
  go_loopw [4] (fun i wr => ∃ k : Nat, k ≤ l.length ∧ i = .int .i64 k ∧ Blk wr w.heap.size 49 ((l.take k).flatMap cC ++ (List.replicate (l.length - k) (0, 0)).flatMap cC) ∧ Below w.heap.size w wr) (fun i _ => l.length - (intOf i).toNat)
  case atStart => exact ⟨0, by omega, rfl, by simpa only [List.take_zero, List.flatMap_nil, List.nil_append, Nat.sub_zero] using N, bl_alloc (Below.refl _ _) _⟩
  case round =>
    obtain ⟨k, hk, rfl, hblk, hb⟩ := hrel
    clear N hmk
    by_cases hlt : k < l.length
    · obtain ⟨b, off, x, y, hA, hbl, hx, hd, _, _, hc0, hc1⟩ := (hr.below hb).at_ hlt
      subst hA
      have hln : ((l.take k).flatMap cC ++ (List.replicate (l.length - k) (0, 0)).flatMap cC).length = l.length * 2 := by
        rw [List.length_append, flatMap_len cC 2 (fun _ => rfl), flatMap_len cC 2 (fun _ => rfl), List.length_take, List.length_replicate, Nat.min_eq_left (by omega), ← Nat.add_mul]; congr 1; omega
      have H := Lib.hid hblk
      have hln' := Lib.hid hln
      have Hb := Lib.hid hb
      have hx' := Lib.hid hx
      clear hx hblk hb hr hd hln
      go_wp2_with (go_at_call 41; refine (toCell_any _ _ _).mono ?_; rintro e wn ⟨rfl, hbn⟩; have H2 := H.out.bel hbn; obtain ⟨u0, hu0⟩ : ∃ u, wn.cell? ⟨w.heap.size, k * 2, none⟩ = some u := ⟨_, (H2.cell _).trans (List.getElem?_eq_getElem (by rw [hln'.out]; omega))⟩; obtain ⟨u1, hu1⟩ : ∃ u, wn.cell? ⟨w.heap.size, k * 2 + 1, none⟩ = some u := ⟨_, (H2.cell _).trans (List.getElem?_eq_getElem (by rw [hln'.out]; omega))⟩; have f0 := H2.frozen (k * 2); have f1 := H2.frozen (k * 2 + 1); have HH := Lib.hid (toCellS_step hx'.out H2 (bl_trans Hb.out hbn) (Nat.le_refl _)); clear H2)
      go_roundw
      case rel => exact ⟨k + 1, by omega, by go_num, HH.out.1, HH.out.2⟩
      case measure => simp [intOf]; omega
    · have hkl : k = l.length := by omega
      subst hkl
      have hb2 : Blk wr w.heap.size 49 (l.flatMap cC) := by simpa using hblk
      have H := Lib.hid hb2
      clear hblk hb2
      go_wp2
      go_ret
      exact ⟨.slice (some ⟨w.heap.size, 0, none⟩) l.length l.length, rfl, ⟨⟨_, _, rfl⟩, H.out.own (Nat.le_refl _) (flatMap_len cC 2 (fun _ => rfl) l) (by simp only [maxLen]; omega), hr.2⟩, hb⟩
def marksC (k : Int) : Nat → List (Int × Int)
  | 0 => []
  | n + 1 => (k, k + 1) :: marksC (k + 2) n
theorem marksC_len (n : Nat) : ∀ k, (marksC k n).length = n := by
  induction n with
  | zero => intro k; rfl
  | succ n ih => intro k; simp [marksC, ih]
theorem marksC_get (n : Nat) : ∀ (k : Int) (i : Nat), i < n → (marksC k n)[i]? = some (k + 2 * i, k + 2 * i + 1) := by
  induction n with
  | zero => intro k i h; omega
  | succ n ih =>
    intro k i h
    cases i with
    | zero => simp [marksC]
    | succ i =>
      rw [marksC, List.getElem?_cons_succ, ih (k + 2) i (by omega)]
      congr 2 <;> omega
theorem marksC_i64 (n : Nat) (k : Int) (h1 : 0 ≤ k) (h2 : k + 2 * n ≤ 4194304) : ∀ c ∈ marksC k n, I64 c.1 ∧ I64 c.2 := by
  intro c hc
  obtain ⟨i, hi, rfl⟩ := List.mem_iff_getElem.1 hc
  rw [marksC_len] at hi
  have := marksC_get n k i hi
  rw [List.getElem?_eq_getElem (by rw [marksC_len]; exact hi)] at this
  injection this with this
  rw [this]
  exact ⟨⟨by omega, by omega⟩, ⟨by omega, by omega⟩⟩
theorem marksC_succ (n : Nat) : ∀ k : Int, marksC k (n + 1) = marksC k n ++ [(k + 2 * n, k + 2 * n + 1)] := by
  induction n with
  | zero => intro k; simp [marksC]
  | succ n ih =>
    intro k
    have e : k + 2 + 2 * (n : Int) = k + 2 * ((n + 1 : Nat) : Int) := by omega
    rw [marksC, ih (k + 2), e]
    rfl
theorem OwC.blk {B : Nat} {w : World} {v : Value} {l : List (Int × Int)} (h : OwC B w v l) (hl : l ≠ []) :
    ∃ g cap rest, v = .slice (some ⟨g, 0, none⟩) l.length cap ∧ B ≤ g ∧ l.length ≤ cap ∧ cap ≤ maxLen ∧ (l.flatMap cC ++ rest).length = cap * 2 ∧ Blk w g 49 (l.flatMap cC ++ rest) := by
  rcases h.2.1.2 with ⟨_, h0⟩ | ⟨g, cap, cur, hv, hb, hg, hn, hm, hs, ht⟩
  · exact absurd (List.eq_nil_of_length_eq_zero h0) hl
  · have e : l.flatMap cC ++ cur.toList.drop (l.length * 2) = cur.toList := by rw [← ht]; exact List.take_append_drop _ _
    refine ⟨g, cap, cur.toList.drop (l.length * 2), hv, hb, hn, hm, ?_, ?_⟩
    · rw [e]; simpa using hs
    · rw [e]; exact hg
theorem Blk.ownC {B g cap : Nat} {w : World} {l : List (Int × Int)} {rest : List Value} (h : Blk w g 49 (l.flatMap cC ++ rest)) (hB : B ≤ g) (hn : l.length ≤ cap) (hm : cap ≤ maxLen) (hs : (l.flatMap cC ++ rest).length = cap * 2) (hg : ∀ x ∈ l, I64 x.1 ∧ I64 x.2) :
    OwC B w (.slice (some ⟨g, 0, none⟩) l.length cap) l :=
  ⟨⟨_, _, rfl⟩, ⟨flatMap_len cC 2 (fun _ => rfl) l, .inr ⟨g, cap, _, rfl, hB, h, hn, hm, by simpa using hs, by rw [← flatMap_len cC 2 (fun _ => rfl) l]; simp⟩⟩, hg⟩
theorem mark_step {wr : World} {g j : Nat} {l : List (Int × Int)} {rest : List Value} {k : Int} (hj : j < l.length) (h : Blk wr g 49 ((marksC k j).flatMap cC ++ (l.drop j).flatMap cC ++ rest)) :
    Blk ((wr.setCell ⟨g, j * 2, none⟩ (.int .i64 (k + 2 * j))).setCell ⟨g, j * 2 + 1, none⟩ (.int .i64 (k + 2 * j + 1))) g 49 ((marksC k (j + 1)).flatMap cC ++ (l.drop (j + 1)).flatMap cC ++ rest) := by
  have := (h.set_ (j * 2) (.int .i64 (k + 2 * j))).set_ (j * 2 + 1) (.int .i64 (k + 2 * j + 1))
  have hl : ((marksC k j).flatMap cC).length = j * 2 := by rw [flatMap_len cC 2 (fun _ => rfl), marksC_len]
  have hd : l.drop j = l[j] :: l.drop (j + 1) := List.drop_eq_getElem_cons hj
  have e : (((marksC k j).flatMap cC ++ (l.drop j).flatMap cC ++ rest).set (j * 2) (Value.int .i64 (k + 2 * j))).set (j * 2 + 1) (Value.int .i64 (k + 2 * j + 1)) = (marksC k (j + 1)).flatMap cC ++ (l.drop (j + 1)).flatMap cC ++ rest := by
    rw [List.append_assoc, List.set_append_right _ _ (by omega), List.set_append_right _ _ (by omega), hl, show j * 2 - j * 2 = 0 by omega, show j * 2 + 1 - j * 2 = 1 by omega, hd, marksC_succ, List.flatMap_append, List.append_assoc, List.append_assoc]
    rfl
  rw [e] at this
  exact this
set_option maxHeartbeats 1000000 in
theorem markCellS_any (B : Nat) (A : Option Addr) (n c : Nat) (l : List (Int × Int)) (k : Int) (w : World) (hn : n ≤ 1048576) (h1 : 0 ≤ k) (h2 : k ≤ 1048576) (h : OwC B w (.slice A n c) l) :
    Calls Try.prog 53 #[.slice A n c, .int .i64 k] w fun e w' => e = .returned (.int .i64 (k + 2 * n)) ∧ OwC B w' (.slice A n c) (marksC k n) ∧ Below B w w' := by
  have hnl : n = l.length := by obtain ⟨⟨A', c', e⟩, _⟩ := h; injection e
  by_cases h0 : l = []
  · have hz : n = 0 := by rw [hnl, h0]; rfl
    clear hnl
    subst hz
    subst h0
    have h' := Lib.hid h
    clear h
    go_enter Try.func53, Try.ntmps53
    go_wp2
    refine wp_loop_rounds 1 ?_
    rw [rounds_succ]
    go_wp2
    go_ret
    exact ⟨ret_int (by omega), h'.out, Below.refl _ _⟩
  · obtain ⟨g, cap, rest, hv, hBg, hnc, hcm, hs, hblk⟩ := h.blk h0
    injection hv with e1 e2 e3
    subst e1
    subst e2
    subst e3
    have hs' := Lib.hid hs
    clear h hs hnl
    have N := hblk
    go_enter Try.func53, Try.ntmps53
    go_wp2
    go_loopw [1, 5] (fun q i wr => ∃ j : Nat, j ≤ l.length ∧ i = .int .i64 j ∧ q = .int .i64 (k + 2 * j) ∧ Blk wr g 49 ((marksC k j).flatMap cC ++ (l.drop j).flatMap cC ++ rest) ∧ Below B w wr) (fun _ i _ => l.length - (intOf i).toNat)
    case atStart => exact ⟨0, by omega, rfl, by go_num, by simpa [marksC] using N, Below.refl _ _⟩
    case round =>
      obtain ⟨j, hj, rfl, rfl, hb, hbl⟩ := hrel
      clear N hblk
      by_cases hlt : j < l.length
      · have hln : j * 2 + 1 < ((marksC k j).flatMap cC ++ (l.drop j).flatMap cC ++ rest).length := by
          rw [List.length_append, List.length_append, flatMap_len cC 2 (fun _ => rfl), flatMap_len cC 2 (fun _ => rfl), marksC_len, List.length_drop]; omega
        obtain ⟨u0, hu0⟩ : ∃ u, wr.cell? ⟨g, j * 2, none⟩ = some u := ⟨_, (hb.cell _).trans (List.getElem?_eq_getElem (by omega))⟩
        obtain ⟨u1, hu1⟩ : ∃ u, wr.cell? ⟨g, j * 2 + 1, none⟩ = some u := ⟨_, (hb.cell _).trans (List.getElem?_eq_getElem (by omega))⟩
        have f0 := hb.frozen (j * 2)
        have f1 := hb.frozen (j * 2 + 1)
        have H := Lib.hid (mark_step hlt hb)
        have Hb := Lib.hid hbl
        clear hb hbl hln
        go_wp2
        go_roundw
        case rel => exact ⟨j + 1, by omega, by go_num, by go_num, H.out, (Hb.out.setCell (by exact hBg) _).setCell (by exact hBg) _⟩
        case measure => simp [intOf]; omega
      · have hjn : j = l.length := by omega
        subst hjn
        have hb2 : Blk wr g 49 ((marksC k l.length).flatMap cC ++ rest) := by simpa using hb
        have H := Lib.hid hb2
        clear hb hb2
        go_wp2
        go_ret
        refine ⟨rfl, ?_, hbl⟩
        have := H.out.ownC (B := B) (cap := c) hBg (by rw [marksC_len]; exact hnc) hcm (by rw [← hs'.out, List.length_append, List.length_append, flatMap_len cC 2 (fun _ => rfl), flatMap_len cC 2 (fun _ => rfl), marksC_len]) (marksC_i64 _ _ h1 (by omega))
        rwa [marksC_len] at this
theorem heldCellS_any (A : Option Addr) (c n : Nat) (k : Int) (w : World) (hn : n ≤ 1048576) (h1 : 0 ≤ k) (h2 : k ≤ 1048576) (hr : RdC w A (marksC k n)) :
    Calls Try.prog 54 #[.slice A n c, .int .i64 k] w fun e w' => e = .returned (.int .i64 (k + 2 * n)) ∧ w = w' := by
  have hlen := marksC_len n k
  go_enter Try.func54, Try.ntmps54
  go_wp2
  go_loop [1, 5] (fun q i => ∃ j : Nat, j ≤ n ∧ i = .int .i64 j ∧ q = .int .i64 (k + 2 * j)) (fun _ i => n - (intOf i).toNat)
  case atStart => exact ⟨0, by omega, rfl, by go_num⟩
  case round =>
    obtain ⟨j, hj, rfl, rfl⟩ := hrel
    by_cases hlt : j < n
    · obtain ⟨b, off, x, y, hA, hbl, hx, hd, _, _, hc0, hc1⟩ := hr.at_ (k := j) (by omega)
      rw [marksC_get n k j hlt] at hx
      injection hx with hx
      injection hx with hx hy
      subst hx
      subst hy
      subst hA
      clear hr hd hlen
      go_wp2
      go_round
      case rel => exact ⟨j + 1, by omega, by go_num, by go_num⟩
      case measure => simp [intOf]; omega
    · have hjn : j = n := by omega
      subst hjn
      clear hr hlen
      go_wp2
      go_ret
      exact ⟨rfl, rfl⟩
end Go.Proofs.Ythclolooidnniaa

/-
  Contracts of functions over lists of dominoes (hasDomino, l11Has, CountChanges, the laws' own copies and comparisons): what each returns, as a function of the lists; nothing that was there is written; lists of at most 1048576.
-/
import Derived.Test.YtoehmocamaamcaaCell
import Derived.Test.YtoehmocamaamcaaInts
import Derived.Test.YtoehmocamaamcaaConv
namespace Go.Proofs.Ytoehmocamaamcaa
open Go.ChangeShapes Go.WideShapes Go.ChangeAt Go.RowKit Go.Deep
set_option linter.unusedVariables false

abbrev Dm := Int × Int × Bool
def findD : List Dm → Dm → Int → Int
  | [], _, _ => -1
  | e :: l, d, k => if e = d then k else findD l d (k + 1)
theorem findD_neg (d : Dm) : ∀ (l : List Dm) (k : Int), 0 ≤ k → (findD l d k < 0 ↔ d ∉ l)
  | [], k, h => by simp [findD]
  | e :: l, k, h => by
    have ih := findD_neg d l (k + 1) (by omega)
    simp only [findD, List.mem_cons]
    by_cases he : e = d
    · simp [he]; omega
    · rw [if_neg he, ih]
      simp [Ne.symm he]
def countCh (a b : List Dm) : Nat := (a.filter fun d => decide (d ∉ b)).length
theorem dom_beq (x y a b : Int) (z c : Bool) : (x == a && y == b && z == c) = decide ((x, y, z) = (a, b, c)) := by
  rw [Bool.eq_iff_iff]; simp [Prod.ext_iff, and_assoc]

set_option maxHeartbeats 1000000 in
theorem hasDomino_any (A : Option Addr) (c : Nat) (l : List Dm) (x y : Int) (z : Bool) (w : World) (hl : l.length ≤ 1048576) (hr : RdD w A l) :
    Calls Try.prog 91 #[.slice A l.length c, .agg #[.int .i64 x, .int .i64 y, .bool z]] w fun e w' => e = .returned (.bool (decide ((x, y, z) ∈ l))) ∧ Below w.heap.size w w' := by
  have P := Blk.new w 45 [.int .i64 x, .int .i64 y, .bool z]
  have he := eq_dom
  go_enter Try.func91, Try.ntmps91
  go_wp2
  go_loopw [9] (fun i wr => ∃ k : Nat, k ≤ l.length ∧ i = .int .i64 k ∧ decide ((x, y, z) ∈ l) = decide ((x, y, z) ∈ l.drop k) ∧ Blk wr w.heap.size 45 [.int .i64 x, .int .i64 y, .bool z] ∧ Below w.heap.size w wr) (fun i _ => l.length - (intOf i).toNat)
  case atStart => exact ⟨0, by omega, rfl, rfl, P, by go_grown⟩
  case round =>
    obtain ⟨k, hk, rfl, hall, P', hb⟩ := hrel
    have Pc := P'.c3
    clear P
    by_cases hlt : k < l.length
    · obtain ⟨b', off, a, b, u, rfl, hbl, hx, hd, _, _, hc0, hc1, hc2⟩ := (hr.below hb).at_ hlt
      rw [hd] at hall
      have H := Lib.hid hall
      have Hb := Lib.hid hb
      have HP := Lib.hid P'
      clear hall hd hx hr hb P'
      have hbe := dom_beq x y a b z u
      have Pa := (HP.out.alloc (.cells #[.int .i64 a, .int .i64 b, .bool u] 45)).c3
      by_cases h : (x, y, z) = (a, b, u)
      · have hbe' : (x == a && y == b && z == u) = true := by rw [hbe]; simp [h]
        have h' := Lib.hid h
        clear hbe h
        go_wp2
        go_ret
        exact ⟨ret_bool (by rw [H.out, h'.out]; simp), bl_trans Hb.out (by go_grown)⟩
      · have hbe' : (x == a && y == b && z == u) = false := by rw [hbe]; simp only [decide_eq_false_iff_not]; exact h
        have h' := Lib.hid h
        clear hbe h
        go_wp2
        go_roundw
        case rel => exact ⟨k + 1, by omega, by go_num, by rw [H.out]; simp only [List.mem_cons, h'.out, false_or], HP.out.alloc _, bl_trans Hb.out (by go_grown)⟩
        case measure => simp [intOf]; omega
    · have h1 : l.drop k = [] := List.drop_eq_nil_of_le (by omega)
      rw [h1] at hall
      have H := Lib.hid hall
      clear hall h1 hr
      go_wp2
      go_ret
      exact ⟨ret_bool (by rw [H.out]; simp), hb⟩
set_option maxHeartbeats 1000000 in
theorem l11Has_any (A : Option Addr) (c : Nat) (l : List Dm) (x y : Int) (z : Bool) (w : World) (hl : l.length ≤ 1048576) (hr : RdD w A l) :
    Calls Try.prog 90 #[.slice A l.length c, .agg #[.int .i64 x, .int .i64 y, .bool z]] w fun e w' => e = .returned (.int .i64 (findD l (x, y, z) 0)) ∧ Below w.heap.size w w' := by
  have P := Blk.new w 45 [.int .i64 x, .int .i64 y, .bool z]
  have he := eq_dom
  go_enter Try.func90, Try.ntmps90
  go_wp2
  go_loopw [5] (fun i wr => ∃ k : Nat, k ≤ l.length ∧ i = .int .i64 k ∧ findD l (x, y, z) 0 = findD (l.drop k) (x, y, z) k ∧ Blk wr w.heap.size 45 [.int .i64 x, .int .i64 y, .bool z] ∧ Below w.heap.size w wr) (fun i _ => l.length - (intOf i).toNat)
  case atStart => exact ⟨0, by omega, rfl, rfl, P, by go_grown⟩
  case round =>
    obtain ⟨k, hk, rfl, hall, P', hb⟩ := hrel
    have Pc := P'.c3
    clear P
    by_cases hlt : k < l.length
    · obtain ⟨b', off, a, b, u, rfl, hbl, hx, hd, _, _, hc0, hc1, hc2⟩ := (hr.below hb).at_ hlt
      rw [hd] at hall
      have q0 := bq_cell hc0
      have q1 := bq_cell hc1
      have q2 := bq_cell hc2
      have p0 := bq_cell Pc.1
      have p1 := bq_cell Pc.2.1
      have p2 := bq_cell Pc.2.2
      have H := Lib.hid hall
      have Hb := Lib.hid hb
      have HP := Lib.hid P'
      clear hall hd hx hr hb P' hc0 hc1 hc2 Pc
      have hbe := dom_beq a b x y u z
      by_cases h : (a, b, u) = (x, y, z)
      · have hbe' : (a == x && b == y && u == z) = true := by rw [hbe]; simp [h]
        have h' := Lib.hid h
        clear hbe h
        go_wp2
        (refine wp_region_quiet_bel (by kernel_rfl) (by kernel_rfl) ?_; (repeat (first | go_big_quiet_step (fail) | quiet_step (fail))); refine wpQuiet_nil ?_; intro wq hw0; obtain ⟨⟨_, hbq⟩, hw1⟩ := hw0; subst hw1; try dsimp only)
        go_wp2
        go_ret
        exact ⟨ret_int (by rw [H.out]; unfold findD; rw [if_pos h'.out]), bl_trans Hb.out hbq⟩
      · have hbe' : (a == x && b == y && u == z) = false := by rw [hbe]; simp only [decide_eq_false_iff_not]; exact h
        have h' := Lib.hid h
        clear hbe h
        go_wp2
        (refine wp_region_quiet_bel (by kernel_rfl) (by kernel_rfl) ?_; (repeat (first | go_big_quiet_step (fail) | quiet_step (fail))); refine wpQuiet_nil ?_; intro wq hw0; obtain ⟨⟨_, hbq⟩, hw1⟩ := hw0; subst hw1; try dsimp only)
        go_wp2
        go_roundw
        case rel => exact ⟨k + 1, by omega, by go_num, by rw [H.out]; simp only [findD, if_neg h'.out]; rfl, HP.out.bel hbq, bl_trans Hb.out hbq⟩
        case measure => simp [intOf]; omega
    · have h1 : l.drop k = [] := List.drop_eq_nil_of_le (by omega)
      rw [h1] at hall
      have H := Lib.hid hall
      clear hall h1 hr
      go_wp2
      go_ret
      exact ⟨ret_int (by rw [H.out]; rfl), hb⟩
set_option maxHeartbeats 1000000 in
theorem CountChanges_i (A B : Option Addr) (c d : Nat) (l m : List Dm) (w : World) (hl : l.length ≤ 1048576) (hm : m.length ≤ 1048576) (hr : RdD w A l) (hs : RdD w B m) :
    Calls Try.prog 65 #[.slice A l.length c, .slice B m.length d] w fun e w' => e = .returned (.int .i64 (countCh l m)) ∧ Below w.heap.size w w' := by
  go_enter Try.func65, Try.ntmps65
  go_wp2
  go_loopw [5, 10] (fun n i wr => ∃ k : Nat, k ≤ l.length ∧ i = .int .i64 k ∧ n = .int .i64 (countCh (l.take k) m) ∧ countCh (l.take k) m ≤ k ∧ Below w.heap.size w wr) (fun _ i _ => l.length - (intOf i).toNat)
  case atStart => exact ⟨0, by omega, rfl, rfl, by simp [countCh], Below.refl _ _⟩
  case round =>
    obtain ⟨k, hk, rfl, rfl, hcn, hb⟩ := hrel
    by_cases hlt : k < l.length
    · obtain ⟨b', off, a, b, u, rfl, hbl, hx, hd, _, _, hc0, hc1, hc2⟩ := (hr.below hb).at_ hlt
      have hst : countCh (l.take (k + 1)) m = countCh (l.take k) m + if (a, b, u) ∈ m then 0 else 1 := by
        rw [List.take_add_one, hx]
        by_cases h : (a, b, u) ∈ m <;> simp [countCh, h]
      have H := Lib.hid hst
      have Hb := Lib.hid hb
      have hs' := Lib.hid (hs.below hb)
      have Pw := Lib.hid (Blk.new wr 45 [.int .i64 a, .int .i64 b, .bool u])
      have Pa := Pw.out.c3
      clear hd hx hr hs hb hst
      by_cases h : (a, b, u) ∈ m
      · have h' := Lib.hid h
        have hde : decide ((a, b, u) ∈ m) = true := by simp [h]
        clear h
        go_wp2_with (go_at_call 91; refine (hasDomino_any B d m a b u _ hm (hs'.out.below (by go_grown))).mono ?_; rintro e wn ⟨rfl, hbn⟩)
        go_roundw
        case rel => exact ⟨k + 1, by omega, by go_num, by rw [H.out, if_pos h'.out]; rfl, by rw [H.out, if_pos h'.out]; omega, bl_trans (bl_trans Hb.out (by go_grown)) hbn⟩
        case measure => simp [intOf]; omega
      · have h' := Lib.hid h
        have hde : decide ((a, b, u) ∈ m) = false := by simp [h]
        clear h
        go_wp2_with (go_at_call 91; refine (hasDomino_any B d m a b u _ hm (hs'.out.below (by go_grown))).mono ?_; rintro e wn ⟨rfl, hbn⟩)
        go_roundw
        case rel => exact ⟨k + 1, by omega, by go_num, by rw [H.out, if_neg h'.out]; go_num, by rw [H.out, if_neg h'.out]; omega, bl_trans (bl_trans Hb.out (by go_grown)) hbn⟩
        case measure => simp [intOf]; omega
    · have hkl : k = l.length := by omega
      subst hkl
      clear hr hs
      go_wp2
      go_ret
      exact ⟨ret_int (by rw [List.take_length]), hb⟩
set_option maxHeartbeats 1000000 in
theorem CountChanges_s (A B : Option Addr) (c d : Nat) (l m : List Dm) (w : World) (hl : l.length ≤ 1048576) (hm : m.length ≤ 1048576) (hr : RdD w A l) (hs : RdD w B m) :
    Calls Try.prog 64 #[.slice A l.length c, .slice B m.length d] w fun e w' => e = .returned (.int .i64 (countCh l m)) ∧ Below w.heap.size w w' := by
  go_enter Try.func64, Try.ntmps64
  go_wp2
  go_loopw [5, 6] (fun n i wr => ∃ k : Nat, k ≤ l.length ∧ i = .int .i64 k ∧ n = .int .i64 (countCh (l.take k) m) ∧ countCh (l.take k) m ≤ k ∧ Below w.heap.size w wr) (fun _ i _ => l.length - (intOf i).toNat)
  case atStart => exact ⟨0, by omega, rfl, rfl, by simp [countCh], Below.refl _ _⟩
  case round =>
    obtain ⟨k, hk, rfl, rfl, hcn, hb⟩ := hrel
    by_cases hlt : k < l.length
    · obtain ⟨b', off, a, b, u, rfl, hbl, hx, hd, _, _, hc0, hc1, hc2⟩ := (hr.below hb).at_ hlt
      have hst : countCh (l.take (k + 1)) m = countCh (l.take k) m + if (a, b, u) ∈ m then 0 else 1 := by
        rw [List.take_add_one, hx]
        by_cases h : (a, b, u) ∈ m <;> simp [countCh, h]
      have H := Lib.hid hst
      have Hb := Lib.hid hb
      have hs' := Lib.hid (hs.below hb)
      have hf := findD_neg (a, b, u) m 0 (by omega)
      clear hd hx hr hs hb hst
      by_cases h : (a, b, u) ∈ m
      · have h' := Lib.hid h
        have hde : 0 ≤ findD m (a, b, u) 0 := by
          have := mt hf.1 (by simpa using h)
          omega
        clear h hf
        go_wp2_with (go_at_call 90; refine (l11Has_any B d m a b u _ hm hs'.out).mono ?_; rintro e wn ⟨rfl, hbn⟩)
        go_roundw
        case rel => exact ⟨k + 1, by omega, by go_num, by rw [H.out, if_pos h'.out]; rfl, by rw [H.out, if_pos h'.out]; omega, bl_trans Hb.out hbn⟩
        case measure => simp [intOf]; omega
      · have h' := Lib.hid h
        have hde : findD m (a, b, u) 0 < 0 := hf.2 h
        clear h hf
        go_wp2_with (go_at_call 90; refine (l11Has_any B d m a b u _ hm hs'.out).mono ?_; rintro e wn ⟨rfl, hbn⟩)
        go_roundw
        case rel => exact ⟨k + 1, by omega, by go_num, by rw [H.out, if_neg h'.out]; go_num, by rw [H.out, if_neg h'.out]; omega, bl_trans Hb.out hbn⟩
        case measure => simp [intOf]; omega
    · have hkl : k = l.length := by omega
      subst hkl
      clear hr hs
      go_wp2
      go_ret
      exact ⟨ret_int (by rw [List.take_length]), hb⟩
theorem eqDomino_any (x y a b : Int) (z u : Bool) (w : World) :
    Calls Try.prog 66 #[.agg #[.int .i64 x, .int .i64 y, .bool z], .agg #[.int .i64 a, .int .i64 b, .bool u]] w fun e w' => e = .returned (.bool (decide ((x, y, z) = (a, b, u)))) ∧ Below w.heap.size w w' := by
  go_enter Try.func66, Try.ntmps66
  cases z <;> cases u
  all_goals
    go_wp2
    all_goals go_ret
    all_goals exact ⟨ret_bool (by simp_all), by go_grown⟩
theorem szDominoS_any (A : Option Addr) (c n : Nat) (left : Int) (w : World) (h1 : -1 ≤ left) (h2 : left ≤ 1048576) (hn : n ≤ maxLen) :
    Calls Try.prog 21 #[.slice A n c, .int .i64 left] w fun e w' => e = .returned (.int .i64 (szSub left n)) ∧ w = w' := by
  unfold maxLen at hn
  by_cases h : left - n < 0
  · go_enter Try.func21, Try.ntmps21
    go_wp2
    go_ret
    exact ⟨ret_int (by unfold szSub; rw [if_pos h]), rfl⟩
  · go_enter Try.func21, Try.ntmps21
    go_wp2
    go_ret
    exact ⟨ret_int (by unfold szSub; rw [if_neg (by omega)]), rfl⟩
set_option maxHeartbeats 1000000 in
theorem eqDominoS_any (A B : Option Addr) (c d : Nat) (l m : List Dm) (w : World) (hl : l.length ≤ 1048576) (hr : RdD w A l) (hs : RdD w B m) :
    Calls Try.prog 26 #[.slice A l.length c, .slice B m.length d] w fun e w' => e = .returned (.bool (decide (l = m))) ∧ Below w.heap.size w w' := by
  by_cases hlen : l.length = m.length
  · have hge : m.length ≤ l.length := by omega
    have hle : l.length ≤ m.length := by omega
    rw [← hlen]
    clear hlen
    go_enter Try.func26, Try.ntmps26
    go_wp2
    go_loopw [5] (fun i wr => ∃ k : Nat, k ≤ l.length ∧ i = .int .i64 k ∧ (decide (l = m)) = (decide (l.drop k = m.drop k)) ∧ Below w.heap.size w wr) (fun i _ => l.length - (intOf i).toNat)
    case atStart => exact ⟨0, by omega, rfl, by simp, Below.refl _ _⟩
    case round =>
      obtain ⟨k, hk, rfl, hall, hb⟩ := hrel
      by_cases hlt : k < l.length
      · obtain ⟨b1, o1, x, y, z, hA, hbl, hx, hd, _, _, c0, c1, c2⟩ := (hr.below hb).at_ hlt
        obtain ⟨b2, o2, a, b, u, hB, hbl2, hy, hd2, _, _, e0, e1, e2⟩ := (hs.below hb).at_ (k := k) (by omega)
        subst hA
        subst hB
        rw [hd, hd2] at hall
        have q0 := bq_cell c0
        have q1 := bq_cell c1
        have q2 := bq_cell c2
        have r0 := bq_cell e0
        have r1 := bq_cell e1
        have r2 := bq_cell e2
        have H := Lib.hid hall
        have hb0 := Lib.hid hb
        clear hr hs hall hd hd2 hx hy c0 c1 c2 e0 e1 e2 hb
        by_cases he : (x, y, z) = (a, b, u)
        · have hde : decide ((x, y, z) = (a, b, u)) = true := by simp only [decide_eq_true_eq]; exact he
          have he' := Lib.hid he
          clear he
          have hdd := Lib.hid hde
          clear hde
          go_wp2
          (refine wp_region_quiet_bel (by kernel_rfl) (by kernel_rfl) ?_; (repeat (first | go_big_quiet_step ((go_at_call 66; exact Calls.bel_of ((eqDomino_any _ _ _ _ _ _ _).mono (fun e w' h => ⟨h.1.trans (ret_bool hdd.out), h.2⟩)))) | quiet_step ((go_at_call 66; exact Calls.bel_of ((eqDomino_any _ _ _ _ _ _ _).mono (fun e w' h => ⟨h.1.trans (ret_bool hdd.out), h.2⟩)))))); refine wpQuiet_nil ?_; intro wq hw0; obtain ⟨⟨_, hbq⟩, hw1⟩ := hw0; subst hw1; try dsimp only)
          go_wp2
          go_roundw
          case rel => exact ⟨k + 1, by omega, by go_num, by rw [H.out]; simp only [List.cons.injEq, he'.out, true_and], bl_trans hb0.out hbq⟩
          case measure => simp [intOf]; omega
        · have hde : decide ((x, y, z) = (a, b, u)) = false := by simp only [decide_eq_false_iff_not]; exact he
          have he' := Lib.hid he
          clear he
          have hdd := Lib.hid hde
          clear hde
          go_wp2
          (refine wp_region_quiet_bel (by kernel_rfl) (by kernel_rfl) ?_; (repeat (first | go_big_quiet_step ((go_at_call 66; exact Calls.bel_of ((eqDomino_any _ _ _ _ _ _ _).mono (fun e w' h => ⟨h.1.trans (ret_bool hdd.out), h.2⟩)))) | quiet_step ((go_at_call 66; exact Calls.bel_of ((eqDomino_any _ _ _ _ _ _ _).mono (fun e w' h => ⟨h.1.trans (ret_bool hdd.out), h.2⟩)))))); refine wpQuiet_nil ?_; intro wq hw0; obtain ⟨⟨_, hbq⟩, hw1⟩ := hw0; subst hw1; try dsimp only)
          go_wp2
          go_ret
          exact ⟨ret_bool (by rw [H.out]; simp only [List.cons.injEq, he'.out, false_and, decide_false]), bl_trans hb0.out hbq⟩
      · have h1 : l.drop k = [] := List.drop_eq_nil_of_le (by omega)
        have h2 : m.drop k = [] := List.drop_eq_nil_of_le (by omega)
        rw [h1, h2] at hall
        have H := Lib.hid hall
        clear hall h1 h2 hr hs
        go_wp2
        go_ret
        exact ⟨ret_bool (by rw [H.out]; simp), hb⟩
  · go_enter Try.func26, Try.ntmps26
    go_wp2
    go_ret
    exact ⟨ret_bool (by simp; intro h; exact hlen (by rw [h])), Below.refl _ _⟩
theorem toDominoS_step {w wr : World} {g k : Nat} {l : List Dm} {x y : Int} {z : Bool} (hx : l[k]? = some (x, y, z)) (h : Blk wr g 45 ((l.take k).flatMap cD ++ (List.replicate (l.length - k) (0, 0, false)).flatMap cD)) (hb : Below w.heap.size w wr) (hg : w.heap.size ≤ g) :
    Blk (((wr.setCell ⟨g, k * 3, none⟩ (.int .i64 x)).setCell ⟨g, k * 3 + 1, none⟩ (.int .i64 y)).setCell ⟨g, k * 3 + 2, none⟩ (.bool z)) g 45 ((l.take (k + 1)).flatMap cD ++ (List.replicate (l.length - (k + 1)) (0, 0, false)).flatMap cD) ∧
      Below w.heap.size w (((wr.setCell ⟨g, k * 3, none⟩ (.int .i64 x)).setCell ⟨g, k * 3 + 1, none⟩ (.int .i64 y)).setCell ⟨g, k * 3 + 2, none⟩ (.bool z)) := by
  obtain ⟨hk, hx'⟩ := List.getElem?_eq_some_iff.1 hx
  refine ⟨?_, ((hb.setCell (by exact hg) _).setCell (by exact hg) _).setCell (by exact hg) _⟩
  have := ((h.set_ (k * 3) (.int .i64 x)).set_ (k * 3 + 1) (.int .i64 y)).set_ (k * 3 + 2) (.bool z)
  have hl : ((l.take k).flatMap cD).length = k * 3 := by rw [flatMap_len cD 3 (fun _ => rfl), List.length_take]; congr 1; omega
  have e : ((((l.take k).flatMap cD ++ (List.replicate (l.length - k) (0, 0, false)).flatMap cD).set (k * 3) (Value.int .i64 x)).set (k * 3 + 1) (Value.int .i64 y)).set (k * 3 + 2) (Value.bool z) =
      (l.take (k + 1)).flatMap cD ++ (List.replicate (l.length - (k + 1)) (0, 0, false)).flatMap cD := by
    rw [List.set_append_right _ _ (by omega), List.set_append_right _ _ (by omega), List.set_append_right _ _ (by omega), hl, show k * 3 - k * 3 = 0 by omega, show k * 3 + 1 - k * 3 = 1 by omega, show k * 3 + 2 - k * 3 = 2 by omega,
      show l.length - k = (l.length - (k + 1)) + 1 by omega, List.replicate_succ, List.take_succ_eq_append_getElem hk, hx', List.flatMap_append, List.append_assoc]
    rfl
  rw [e] at this
  exact this
theorem info_dom : (Try.prog.info? 45).map (fun i => (i.zero, i.size, i.bytes)) = some (some (.agg #[.int .i64 0, .int .i64 0, .bool false]), 3, 24) := by kernel_rfl
set_option maxHeartbeats 1000000 in
theorem toDominoS_any (A : Option Addr) (c : Nat) (l : List Dm) (w : World) (hl : l.length ≤ 1048576) (hr : RdD w A l) :
    Calls Try.prog 23 #[.slice A l.length c] w fun e w' => ∃ v, e = .returned v ∧ OwD w.heap.size w' v l ∧ Below w.heap.size w w' := by
  have hmk := run_make_structs (P := Try.prog) cD (0, 0, false) 3 (by decide) (fun _ => rfl) 43 45 _ 24 Try.underlying43 info_dom rfl l.length (by omega) (by omega)
  have N := Blk.new w 45 ((List.replicate l.length (0, 0, false)).flatMap cD)
  go_enter Try.func23, Try.ntmps23
  go_wp2
  go_loopw [4] (fun i wr => ∃ k : Nat, k ≤ l.length ∧ i = .int .i64 k ∧ Blk wr w.heap.size 45 ((l.take k).flatMap cD ++ (List.replicate (l.length - k) (0, 0, false)).flatMap cD) ∧ Below w.heap.size w wr) (fun i _ => l.length - (intOf i).toNat)
  case atStart => exact ⟨0, by omega, rfl, by simpa only [List.take_zero, List.flatMap_nil, List.nil_append, Nat.sub_zero] using N, bl_alloc (Below.refl _ _) _⟩
  case round =>
    obtain ⟨k, hk, rfl, hblk, hb⟩ := hrel
    clear N hmk
    by_cases hlt : k < l.length
    · obtain ⟨b, off, x, y, z, hA, hbl, hx, hd, _, _, hc0, hc1, hc2⟩ := (hr.below hb).at_ hlt
      subst hA
      have hln : ((l.take k).flatMap cD ++ (List.replicate (l.length - k) (0, 0, false)).flatMap cD).length = l.length * 3 := by
        rw [List.length_append, flatMap_len cD 3 (fun _ => rfl), flatMap_len cD 3 (fun _ => rfl), List.length_take, List.length_replicate, Nat.min_eq_left (by omega), ← Nat.add_mul]; congr 1; omega
      have H := Lib.hid hblk
      have hln' := Lib.hid hln
      have Hb := Lib.hid hb
      have hx' := Lib.hid hx
      clear hx hblk hb hr hd hln
      go_wp2_with (go_at_call 24; refine (toDomino_any _ _ _ _).mono ?_; rintro e wn ⟨rfl, hbn⟩; have H2 := H.out.bel hbn; obtain ⟨u0, hu0⟩ : ∃ u, wn.cell? ⟨w.heap.size, k * 3, none⟩ = some u := ⟨_, (H2.cell _).trans (List.getElem?_eq_getElem (by rw [hln'.out]; omega))⟩; obtain ⟨u1, hu1⟩ : ∃ u, wn.cell? ⟨w.heap.size, k * 3 + 1, none⟩ = some u := ⟨_, (H2.cell _).trans (List.getElem?_eq_getElem (by rw [hln'.out]; omega))⟩; obtain ⟨u2, hu2⟩ : ∃ u, wn.cell? ⟨w.heap.size, k * 3 + 2, none⟩ = some u := ⟨_, (H2.cell _).trans (List.getElem?_eq_getElem (by rw [hln'.out]; omega))⟩; have f0 := H2.frozen (k * 3); have f1 := H2.frozen (k * 3 + 1); have f2 := H2.frozen (k * 3 + 2); have HH := Lib.hid (toDominoS_step hx'.out H2 (bl_trans Hb.out hbn) (Nat.le_refl _)); clear H2)
      go_roundw
      case rel => exact ⟨k + 1, by omega, by go_num, HH.out.1, HH.out.2⟩
      case measure => simp [intOf]; omega
    · have hkl : k = l.length := by omega
      subst hkl
      have hb2 : Blk wr w.heap.size 45 (l.flatMap cD) := by simpa using hblk
      have H := Lib.hid hb2
      clear hblk hb2
      go_wp2
      go_ret
      exact ⟨.slice (some ⟨w.heap.size, 0, none⟩) l.length l.length, rfl, ⟨⟨_, _, rfl⟩, H.out.own (Nat.le_refl _) (flatMap_len cD 3 (fun _ => rfl) l) (by simp only [maxLen]; omega), hr.2⟩, hb⟩
end Go.Proofs.Ytoehmocamaamcaa

/-
  Contracts of functions over lists of dominoes (hasDomino, l11Has, CountChanges, the laws' own copies and comparisons): what each returns, as a function of the lists; nothing that was there is written; lists of at most 1048576.
-/
import Derived.Test.YtdcjhfmkkcakhaaCell
import Derived.Test.YtdcjhfmkkcakhaaInts
import Derived.Test.YtdcjhfmkkcakhaaConv
namespace Go.Proofs.Ytdcjhfmkkcakhaa
open Go.ChangeShapes Go.WideShapes Go.ChangeAt Go.RowKit Go.Deep
set_option linter.unusedVariables false

abbrev Dm := Int × Int × Bool
def findD : List Dm → Dm → Int → Int
  | [], _, _ => -1
  | e :: l, d, k => if e = d then k else findD l d (k + 1)
theorem findD_neg (d : Dm) : ∀ (l : List Dm) (k : Int), 0 ≤ k → (findD l d k < 0 ↔ d ∉ l)
  | [], k, h => by simp [findD]
  | e :: l, k, h => by
    have ih := findD_neg d l (k + 1) (by omega)
    simp only [findD, List.mem_cons]
    by_cases he : e = d
    · simp [he]; omega
    · rw [if_neg he, ih]
      simp [Ne.symm he]
def countCh (a b : List Dm) : Nat := (a.filter fun d => decide (d ∉ b)).length
theorem dom_beq (x y a b : Int) (z c : Bool) : (x == a && y == b && z == c) = decide ((x, y, z) = (a, b, c)) := by
  rw [Bool.eq_iff_iff]; simp [Prod.ext_iff, and_assoc]

set_option maxHeartbeats 1000000 in
theorem hasDomino_any (A : Option Addr) (c : Nat) (l : List Dm) (x y : Int) (z : Bool) (w : World) (hl : l.length ≤ 1048576) (hr : RdD w A l) :
    Calls Try.prog 116 #[.slice A l.length c, .agg #[.int .i64 x, .int .i64 y, .bool z]] w fun e w' => e = .returned (.bool (decide ((x, y, z) ∈ l))) ∧ Below w.heap.size w w' := by
  have P := Blk.new w 53 [.int .i64 x, .int .i64 y, .bool z]
  have he := eq_dom
  go_enter Try.func116, Try.ntmps116
  go_wp2
  go_loopw [9] (fun i wr => ∃ k : Nat, k ≤ l.length ∧ i = .int .i64 k ∧ decide ((x, y, z) ∈ l) = decide ((x, y, z) ∈ l.drop k) ∧ Blk wr w.heap.size 53 [.int .i64 x, .int .i64 y, .bool z] ∧ Below w.heap.size w wr) (fun i _ => l.length - (intOf i).toNat)
  case atStart => exact ⟨0, by omega, rfl, rfl, P, by go_grown⟩
  case round =>
    obtain ⟨k, hk, rfl, hall, P', hb⟩ := hrel
    have Pc := P'.c3
    clear P
    by_cases hlt : k < l.length
    · obtain ⟨b', off, a, b, u, rfl, hbl, hx, hd, _, _, hc0, hc1, hc2⟩ := (hr.below hb).at_ hlt
      rw [hd] at hall
      have H := Lib.hid hall
      have Hb := Lib.hid hb
      have HP := Lib.hid P'
      clear hall hd hx hr hb P'
      have hbe := dom_beq x y a b z u
      have Pa := (HP.out.alloc (.cells #[.int .i64 a, .int .i64 b, .bool u] 53)).c3
      by_cases h : (x, y, z) = (a, b, u)
      · have hbe' : (x == a && y == b && z == u) = true := by rw [hbe]; simp [h]
        have h' := Lib.hid h
        clear hbe h
        go_wp2
        go_ret
        exact ⟨ret_bool (by rw [H.out, h'.out]; simp), bl_trans Hb.out (by go_grown)⟩
      · have hbe' : (x == a && y == b && z == u) = false := by rw [hbe]; simp only [decide_eq_false_iff_not]; exact h
        have h' := Lib.hid h
        clear hbe h
        go_wp2
        go_roundw
        case rel => exact ⟨k + 1, by omega, by go_num, by rw [H.out]; simp only [List.mem_cons, h'.out, false_or], HP.out.alloc _, bl_trans Hb.out (by go_grown)⟩
        case measure => simp [intOf]; omega
    · have h1 : l.drop k = [] := List.drop_eq_nil_of_le (by omega)
      rw [h1] at hall
      have H := Lib.hid hall
      clear hall h1 hr
      go_wp2
      go_ret
      exact ⟨ret_bool (by rw [H.out]; simp), hb⟩
set_option maxHeartbeats 1000000 in
theorem l11Has_any (A : Option Addr) (c : Nat) (l : List Dm) (x y : Int) (z : Bool) (w : World) (hl : l.length ≤ 1048576) (hr : RdD w A l) :
    Calls Try.prog 111 #[.slice A l.length c, .agg #[.int .i64 x, .int .i64 y, .bool z]] w fun e w' => e = .returned (.int .i64 (findD l (x, y, z) 0)) ∧ Below w.heap.size w w' := by
  have P := Blk.new w 53 [.int .i64 x, .int .i64 y, .bool z]
  have he := eq_dom
  go_enter Try.func111, Try.ntmps111
  go_wp2
  go_loopw [5] (fun i wr => ∃ k : Nat, k ≤ l.length ∧ i = .int .i64 k ∧ findD l (x, y, z) 0 = findD (l.drop k) (x, y, z) k ∧ Blk wr w.heap.size 53 [.int .i64 x, .int .i64 y, .bool z] ∧ Below w.heap.size w wr) (fun i _ => l.length - (intOf i).toNat)
  case atStart => exact ⟨0, by omega, rfl, rfl, P, by go_grown⟩
  case round =>
    obtain ⟨k, hk, rfl, hall, P', hb⟩ := hrel
    have Pc := P'.c3
    clear P
    by_cases hlt : k < l.length
    · obtain ⟨b', off, a, b, u, rfl, hbl, hx, hd, _, _, hc0, hc1, hc2⟩ := (hr.below hb).at_ hlt
      rw [hd] at hall
      have q0 := bq_cell hc0
      have q1 := bq_cell hc1
      have q2 := bq_cell hc2
      have p0 := bq_cell Pc.1
      have p1 := bq_cell Pc.2.1
      have p2 := bq_cell Pc.2.2
      have H := Lib.hid hall
      have Hb := Lib.hid hb
      have HP := Lib.hid P'
      clear hall hd hx hr hb P' hc0 hc1 hc2 Pc
      have hbe := dom_beq a b x y u z
      by_cases h : (a, b, u) = (x, y, z)
      · have hbe' : (a == x && b == y && u == z) = true := by rw [hbe]; simp [h]
        have h' := Lib.hid h
        clear hbe h
        go_wp2
        (refine wp_region_quiet_bel (by kernel_rfl) (by kernel_rfl) ?_; (repeat (first | go_big_quiet_step (fail) | quiet_step (fail))); refine wpQuiet_nil ?_; intro wq hw0; obtain ⟨⟨_, hbq⟩, hw1⟩ := hw0; subst hw1; try dsimp only)
        go_wp2
        go_ret
        exact ⟨ret_int (by rw [H.out]; unfold findD; rw [if_pos h'.out]), bl_trans Hb.out hbq⟩
      · have hbe' : (a == x && b == y && u == z) = false := by rw [hbe]; simp only [decide_eq_false_iff_not]; exact h
        have h' := Lib.hid h
        clear hbe h
        go_wp2
        (refine wp_region_quiet_bel (by kernel_rfl) (by kernel_rfl) ?_; (repeat (first | go_big_quiet_step (fail) | quiet_step (fail))); refine wpQuiet_nil ?_; intro wq hw0; obtain ⟨⟨_, hbq⟩, hw1⟩ := hw0; subst hw1; try dsimp only)
        go_wp2
        go_roundw
        case rel => exact ⟨k + 1, by omega, by go_num, by rw [H.out]; simp only [findD, if_neg h'.out]; rfl, HP.out.bel hbq, bl_trans Hb.out hbq⟩
        case measure => simp [intOf]; omega
    · have h1 : l.drop k = [] := List.drop_eq_nil_of_le (by omega)
      rw [h1] at hall
      have H := Lib.hid hall
      clear hall h1 hr
      go_wp2
      go_ret
      exact ⟨ret_int (by rw [H.out]; rfl), hb⟩
set_option maxHeartbeats 1000000 in
theorem CountChanges_i (A B : Option Addr) (c d : Nat) (l m : List Dm) (w : World) (hl : l.length ≤ 1048576) (hm : m.length ≤ 1048576) (hr : RdD w A l) (hs : RdD w B m) :
    Calls Try.prog 36 #[.slice A l.length c, .slice B m.length d] w fun e w' => e = .returned (.int .i64 (countCh l m)) ∧ Below w.heap.size w w' := by
  go_enter Try.func36, Try.ntmps36
  go_wp2
  go_loopw [5, 10] (fun n i wr => ∃ k : Nat, k ≤ l.length ∧ i = .int .i64 k ∧ n = .int .i64 (countCh (l.take k) m) ∧ countCh (l.take k) m ≤ k ∧ Below w.heap.size w wr) (fun _ i _ => l.length - (intOf i).toNat)
  case atStart => exact ⟨0, by omega, rfl, rfl, by simp [countCh], Below.refl _ _⟩
  case round =>
    obtain ⟨k, hk, rfl, rfl, hcn, hb⟩ := hrel
    by_cases hlt : k < l.length
    · obtain ⟨b', off, a, b, u, rfl, hbl, hx, hd, _, _, hc0, hc1, hc2⟩ := (hr.below hb).at_ hlt
      have hst : countCh (l.take (k + 1)) m = countCh (l.take k) m + if (a, b, u) ∈ m then 0 else 1 := by
        rw [List.take_add_one, hx]
        by_cases h : (a, b, u) ∈ m <;> simp [countCh, h]
      have H := Lib.hid hst
      have Hb := Lib.hid hb
      have hs' := Lib.hid (hs.below hb)
      have Pw := Lib.hid (Blk.new wr 53 [.int .i64 a, .int .i64 b, .bool u])
      have Pa := Pw.out.c3
      clear hd hx hr hs hb hst
      by_cases h : (a, b, u) ∈ m
      · have h' := Lib.hid h
        have hde : decide ((a, b, u) ∈ m) = true := by simp [h]
        clear h
        go_wp2_with (go_at_call 116; refine (hasDomino_any B d m a b u _ hm (hs'.out.below (by go_grown))).mono ?_; rintro e wn ⟨rfl, hbn⟩)
        go_roundw
        case rel => exact ⟨k + 1, by omega, by go_num, by rw [H.out, if_pos h'.out]; rfl, by rw [H.out, if_pos h'.out]; omega, bl_trans (bl_trans Hb.out (by go_grown)) hbn⟩
        case measure => simp [intOf]; omega
      · have h' := Lib.hid h
        have hde : decide ((a, b, u) ∈ m) = false := by simp [h]
        clear h
        go_wp2_with (go_at_call 116; refine (hasDomino_any B d m a b u _ hm (hs'.out.below (by go_grown))).mono ?_; rintro e wn ⟨rfl, hbn⟩)
        go_roundw
        case rel => exact ⟨k + 1, by omega, by go_num, by rw [H.out, if_neg h'.out]; go_num, by rw [H.out, if_neg h'.out]; omega, bl_trans (bl_trans Hb.out (by go_grown)) hbn⟩
        case measure => simp [intOf]; omega
    · have hkl : k = l.length := by omega
      subst hkl
      clear hr hs
      go_wp2
      go_ret
      exact ⟨ret_int (by rw [List.take_length]), hb⟩
set_option maxHeartbeats 1000000 in
theorem CountChanges_s (A B : Option Addr) (c d : Nat) (l m : List Dm) (w : World) (hl : l.length ≤ 1048576) (hm : m.length ≤ 1048576) (hr : RdD w A l) (hs : RdD w B m) :
    Calls Try.prog 32 #[.slice A l.length c, .slice B m.length d] w fun e w' => e = .returned (.int .i64 (countCh l m)) ∧ Below w.heap.size w w' := by
  go_enter Try.func32, Try.ntmps32
  go_wp2
  go_loopw [5, 6] (fun n i wr => ∃ k : Nat, k ≤ l.length ∧ i = .int .i64 k ∧ n = .int .i64 (countCh (l.take k) m) ∧ countCh (l.take k) m ≤ k ∧ Below w.heap.size w wr) (fun _ i _ => l.length - (intOf i).toNat)
  case atStart => exact ⟨0, by omega, rfl, rfl, by simp [countCh], Below.refl _ _⟩
  case round =>
    obtain ⟨k, hk, rfl, rfl, hcn, hb⟩ := hrel
    by_cases hlt : k < l.length
    · obtain ⟨b', off, a, b, u, rfl, hbl, hx, hd, _, _, hc0, hc1, hc2⟩ := (hr.below hb).at_ hlt
      have hst : countCh (l.take (k + 1)) m = countCh (l.take k) m + if (a, b, u) ∈ m then 0 else 1 := by
        rw [List.take_add_one, hx]
        by_cases h : (a, b, u) ∈ m <;> simp [countCh, h]
      have H := Lib.hid hst
      have Hb := Lib.hid hb
      have hs' := Lib.hid (hs.below hb)
      have hf := findD_neg (a, b, u) m 0 (by omega)
      clear hd hx hr hs hb hst
      by_cases h : (a, b, u) ∈ m
      · have h' := Lib.hid h
        have hde : 0 ≤ findD m (a, b, u) 0 := by
          have := mt hf.1 (by simpa using h)
          omega
        clear h hf
        go_wp2_with (go_at_call 111; refine (l11Has_any B d m a b u _ hm hs'.out).mono ?_; rintro e wn ⟨rfl, hbn⟩)
        go_roundw
        case rel => exact ⟨k + 1, by omega, by go_num, by rw [H.out, if_pos h'.out]; rfl, by rw [H.out, if_pos h'.out]; omega, bl_trans Hb.out hbn⟩
        case measure => simp [intOf]; omega
      · have h' := Lib.hid h
        have hde : findD m (a, b, u) 0 < 0 := hf.2 h
        clear h hf
        go_wp2_with (go_at_call 111; refine (l11Has_any B d m a b u _ hm hs'.out).mono ?_; rintro e wn ⟨rfl, hbn⟩)
        go_roundw
        case rel => exact ⟨k + 1, by omega, by go_num, by rw [H.out, if_neg h'.out]; go_num, by rw [H.out, if_neg h'.out]; omega, bl_trans Hb.out hbn⟩
        case measure => simp [intOf]; omega
    · have hkl : k = l.length := by omega
      subst hkl
      clear hr hs
      go_wp2
      go_ret
      exact ⟨ret_int (by rw [List.take_length]), hb⟩
end Go.Proofs.Ytdcjhfmkkcakhaa

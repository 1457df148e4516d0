/-
  Contracts of the functions on patterns (PatternOk, both; the laws' own copy, comparison and size): what each returns, as a function of its arguments; nothing that was there is written; at most 1048576 numbers.
-/
import Derived.Test.YthclolooidnniaaInts
namespace Go.Proofs.Ythclolooidnniaa
open Go.ChangeShapes Go.WideShapes Go.ChangeAt Go.RowKit Go.Deep
set_option linter.unusedVariables false

def patOk (a b m : Int) (l : List Int) : Bool := inB a 1 4 && inB b 1 4 && inB m 2 9 && decide ((l.length : Int) = a * b) && l.all fun x => inB x 0 (m - 1)
theorem small_mul {a b : Int} (h1 : 1 ≤ a) (h2 : a ≤ 4) (h3 : 1 ≤ b) (h4 : b ≤ 4) : 1 ≤ a * b ∧ a * b ≤ 16 := by
  have ha : a = 1 ∨ a = 2 ∨ a = 3 ∨ a = 4 := by omega
  rcases ha with rfl | rfl | rfl | rfl <;> omega
set_option maxRecDepth 100000 in
set_option maxHeartbeats 1000000 in
theorem PatternOk_i (a b m : Int) (A : Option Addr) (c : Nat) (l : List Int) (w : World) (hl : l.length ≤ 1048576) (hr : RdI w A l) :
    Calls Try.prog 32 #[.agg #[.int .i64 a, .int .i64 b, .int .i64 m, .slice A l.length c]] w fun e w' => e = .returned (.bool (patOk a b m l)) ∧ Below w.heap.size w w' := by
  have hr' := Lib.hid (hr.below ((Below.refl _ _).alloc (Nat.le_refl _) (.cells #[.int .i64 a, .int .i64 b, .int .i64 m, .slice A l.length c] 32)))
  clear hr
  by_cases h : inB a 1 4 = true ∧ inB b 1 4 = true ∧ inB m 2 9 = true
  · obtain ⟨h1, h2, h3⟩ := h
    have i1 := inB_true.1 h1
    have i2 := inB_true.1 h2
    have i3 := inB_true.1 h3
    have i4 := small_mul i1.1 i1.2 i2.1 i2.2
    by_cases h4 : (l.length : Int) = a * b
    · have h4' := Lib.hid h4
      have hq : ((l.length : Int) == a * b) = true := by simp [h4]
      clear h4
      go_enter Try.func32, Try.ntmps32
      go_wp2_with (first | (go_at_call 74; refine (within_any _ _ _ _).mono ?_; rintro e wn ⟨rfl, rfl⟩) | (go_at_call 75; refine (allWithin_any A c l _ _ _ hl hr'.out).mono ?_; rintro e wn ⟨rfl, rfl⟩))
      go_ret
      exact ⟨ret_bool (by simp [patOk, h1, h2, h3, h4'.out]), by go_grown⟩
    · have h4' := Lib.hid h4
      have hq : ((l.length : Int) == a * b) = false := by simp [h4]
      clear h4
      go_enter Try.func32, Try.ntmps32
      go_wp2_with (first | (go_at_call 74; refine (within_any _ _ _ _).mono ?_; rintro e wn ⟨rfl, rfl⟩) | (go_at_call 75; refine (allWithin_any A c l _ _ _ hl hr'.out).mono ?_; rintro e wn ⟨rfl, rfl⟩))
      go_ret
      exact ⟨ret_bool (by simp [patOk, h1, h2, h3, h4'.out]), by go_grown⟩
  · go_enter Try.func32, Try.ntmps32
    by_cases h1 : inB a 1 4 = true
    · by_cases h2 : inB b 1 4 = true
      · have h3 : inB m 2 9 = false := by
          cases h3 : inB m 2 9
          · rfl
          · exact absurd ⟨h1, h2, h3⟩ h
        clear h
        go_wp2_with (go_at_call 74; refine (within_any _ _ _ _).mono ?_; rintro e wn ⟨rfl, rfl⟩)
        go_ret
        exact ⟨ret_bool (by simp [patOk, h3]), by go_grown⟩
      · have h2' : inB b 1 4 = false := by simpa using h2
        clear h h2
        go_wp2_with (go_at_call 74; refine (within_any _ _ _ _).mono ?_; rintro e wn ⟨rfl, rfl⟩)
        go_ret
        exact ⟨ret_bool (by simp [patOk, h2']), by go_grown⟩
    · have h1' : inB a 1 4 = false := by simpa using h1
      clear h h1
      go_wp2_with (go_at_call 74; refine (within_any _ _ _ _).mono ?_; rintro e wn ⟨rfl, rfl⟩)
      go_ret
      exact ⟨ret_bool (by simp [patOk, h1']), by go_grown⟩
theorem szPattern_any (x y z : Int) (A : Option Addr) (c n : Nat) (left : Int) (w : World) (h1 : -1 ≤ left) (h2 : left ≤ 1048576) (hn : n ≤ maxLen) :
    Calls Try.prog 15 #[.agg #[.int .i64 x, .int .i64 y, .int .i64 z, .slice A n c], .int .i64 left] w fun e w' => e = .returned (.int .i64 (szSub left n)) ∧ Below w.heap.size w w' := by
  by_cases h : szSub left n < 0
  · go_enter Try.func15, Try.ntmps15
    go_wp2_with (go_at_call 67; refine (szIntS_any _ _ _ _ _ (by omega) (by omega) (by assumption)).mono ?_; rintro e wn ⟨rfl, rfl⟩)
    go_ret
    exact ⟨ret_int (by have := szSub_le left n h1 h2; omega), by go_grown⟩
  · go_enter Try.func15, Try.ntmps15
    go_wp2_with (go_at_call 67; refine (szIntS_any _ _ _ _ _ (by omega) (by omega) (by assumption)).mono ?_; rintro e wn ⟨rfl, rfl⟩)
    go_ret
    exact ⟨rfl, by go_grown⟩
theorem res_pattern {fn : Func} {s g : Nat} (hres : fn.results = #[.cell s 32]) {tmps : Array Value} {w : World} {a b c d : Value}
    (h1 : tmps.getD s undef = .pointer (some ⟨g, 0, none⟩)) (B : Blk w g 32 [a, b, c, d]) : (results fn tmps).run Try.prog w = .ok (.agg #[a, b, c, d]) w := by
  have c1 := B.c4
  simp only [Array.getD_eq_getD_getElem?] at h1
  simp [results, hres, h1, go_sem, c1]
set_option maxHeartbeats 1000000 in
theorem toPattern_any (x y z : Int) (A : Option Addr) (c : Nat) (l : List Int) (w : World) (hl : l.length ≤ 1048576) (hr : RdI w A l) :
    Calls Try.prog 19 #[.agg #[.int .i64 x, .int .i64 y, .int .i64 z, .slice A l.length c]] w fun e w' => ∃ A' c', e = .returned (.agg #[.int .i64 x, .int .i64 y, .int .i64 z, .slice A' l.length c']) ∧ RdI w' A' l ∧ Below w.heap.size w w' := by
  have hr' := Lib.hid hr
  clear hr
  have hB := Below.refl w.heap.size w
  have O := Blk.new3 w (.cells #[.int .i64 x, .int .i64 y, .int .i64 z, .slice A l.length c] 24) (.cells #[.int .i64 0, .int .i64 0, .int .i64 0, .slice none 0 0] 32) 32 [.int .i64 x, .int .i64 y, .int .i64 z, .slice none 0 0]
  have R := (Blk.new2 w (.cells #[.int .i64 x, .int .i64 y, .int .i64 z, .slice A l.length c] 24) 32 [.int .i64 0, .int .i64 0, .int .i64 0, .slice none 0 0]).alloc (.cells #[.int .i64 x, .int .i64 y, .int .i64 z, .slice none 0 0] 32)
  have Oc := O.c4
  have Rc := R.c4
  go_enter Try.func19, Try.ntmps19
  go_wp2_with fail
  (refine (toIntS_any A c l _ hl (hr'.out.below (by go_grown))).mono ?_; rintro e wn ⟨v, rfl, ⟨⟨A1, c1, rfl⟩, o1, p1⟩, hbn⟩; have hSz := bl_sz (bl_trans hB (by go_grown)) hbn; replace hB := bl_trans (bl_trans hB (by go_grown)) hbn; replace O := O.bel (bl_trans (by go_grown) hbn); replace Oc := O.c4; replace R := R.bel (bl_trans (by go_grown) hbn); replace Rc := R.c4; have I := Lib.hid (show OwI _ wn _ l from ⟨⟨A1, c1, rfl⟩, o1, p1⟩); clear o1 p1; clear hbn)
  have Of := O.frozen 3
  have Rf0 := R.frozen 0
  have Rf1 := R.frozen 1
  have Rf2 := R.frozen 2
  have Rf3 := R.frozen 3
  have F : _ = some (Value.slice A1 l.length c1) := (O.set_ 3 (.slice A1 l.length c1)).cell 3
  have R4 := Lib.hid (((((R.farN (w.heap.size + 1 + 1) 3 (by omega) (.slice A1 l.length c1)).set_ 0 (.int .i64 x)).set_ 1 (.int .i64 y)).set_ 2 (.int .i64 z)).set_ 3 (.slice A1 l.length c1))
  go_wp2_with fail
  have hfin : Below w.heap.size w _ := ((((hB.setCell (p := ⟨w.heap.size + 1 + 1, 3, none⟩) (by show w.heap.size ≤ w.heap.size + 1 + 1; omega) (.slice A1 l.length c1)).setCell (p := ⟨w.heap.size + 1, 0, none⟩) (by show w.heap.size ≤ w.heap.size + 1; omega) (.int .i64 x)).setCell (p := ⟨w.heap.size + 1, 1, none⟩) (by show w.heap.size ≤ w.heap.size + 1; omega) (.int .i64 y)).setCell (p := ⟨w.heap.size + 1, 2, none⟩) (by show w.heap.size ≤ w.heap.size + 1; omega) (.int .i64 z)).setCell (p := ⟨w.heap.size + 1, 3, none⟩) (by show w.heap.size ≤ w.heap.size + 1; omega) (.slice A1 l.length c1)
  exact bodyPost_ret (res_pattern rfl rfl R4.out) rfl ⟨A1, c1, rfl, (((((I.out.set_ (p := ⟨w.heap.size + 1 + 1, 3, none⟩) (by simp) _).set_ (p := ⟨w.heap.size + 1, 0, none⟩) (by simp; try omega) _).set_ (p := ⟨w.heap.size + 1, 1, none⟩) (by simp; try omega) _).set_ (p := ⟨w.heap.size + 1, 2, none⟩) (by simp; try omega) _).set_ (p := ⟨w.heap.size + 1, 3, none⟩) (by simp; try omega) _).rd, hfin⟩
set_option maxHeartbeats 1000000 in
theorem eqPattern_any (x y z a b m : Int) (A B : Option Addr) (c d : Nat) (l k : List Int) (w : World) (hl : l.length ≤ 1048576) (hr : RdI w A l) (hs : RdI w B k) :
    Calls Try.prog 23 #[.agg #[.int .i64 x, .int .i64 y, .int .i64 z, .slice A l.length c], .agg #[.int .i64 a, .int .i64 b, .int .i64 m, .slice B k.length d]] w fun e w' => e = .returned (.bool (decide (x = a ∧ y = b ∧ z = m ∧ l = k))) ∧ Below w.heap.size w w' := by
  (have hB := Below.refl w.heap.size w; have P := (Blk.new w 32 [.int .i64 x, .int .i64 y, .int .i64 z, .slice A l.length c]).alloc (.cells #[.int .i64 a, .int .i64 b, .int .i64 m, .slice B k.length d] 32); have Pc := P.c4; have Q := Blk.new2 w (.cells #[.int .i64 x, .int .i64 y, .int .i64 z, .slice A l.length c] 32) 32 [.int .i64 a, .int .i64 b, .int .i64 m, .slice B k.length d]; have Qc := Q.c4)
  have hr' := Lib.hid hr
  have hs' := Lib.hid hs
  clear hr hs
  go_enter Try.func23, Try.ntmps23
  go_wp2_with (go_at_call 44; refine (eqIntS_any A B c d l k _ hl (hr'.out.below (by go_grown)) (hs'.out.below (by go_grown))).mono ?_; rintro e wn ⟨rfl, hbn⟩; replace hB := bl_trans (bl_trans hB (by go_grown)) hbn)
  all_goals go_ret
  all_goals exact ⟨ret_bool (by simp_all), (by first | (go_grown; done) | exact bl_trans hB (by go_grown))⟩
theorem patOk_eq (a b m : Int) (l : List Int) : patOk a b m l = ((l.all fun x => inB x 0 (wrap64 (m - 1))) && inB a 1 4 && inB b 1 4 && inB m 2 9 && decide ((l.length : Int) = a * b)) := by
  unfold patOk
  cases h : inB m 2 9
  · simp
  · have := inB_true.1 h
    have e : wrap64 (m - 1) = m - 1 := IntWalk.wrap64_in _ ⟨by omega, by omega⟩
    rw [e]
    cases inB a 1 4 <;> cases inB b 1 4 <;> cases decide ((l.length : Int) = a * b) <;> simp
set_option maxRecDepth 100000 in
set_option maxHeartbeats 4000000 in
theorem PatternOk_s (a b m : Int) (A : Option Addr) (c : Nat) (l : List Int) (w : World) (hl : l.length ≤ 1048576) (hr : RdI w A l) :
    Calls Try.prog 88 #[.agg #[.int .i64 a, .int .i64 b, .int .i64 m, .slice A l.length c]] w fun e w' => e = .returned (.bool (patOk a b m l)) ∧ Below w.heap.size w w' := by
  (have hB := Below.refl w.heap.size w; have P := Blk.new w 32 [.int .i64 a, .int .i64 b, .int .i64 m, .slice A l.length c]; have Pc := P.c4)
  go_enter Try.func88, Try.ntmps88
  go_wp2
  go_loopw [3] (fun i wr => ∃ k : Nat, k ≤ l.length ∧ i = .int .i64 k ∧ (l.all fun x => inB x 0 (wrap64 (m - 1))) = ((l.drop k).all fun x => inB x 0 (wrap64 (m - 1))) ∧ Blk wr w.heap.size 32 [.int .i64 a, .int .i64 b, .int .i64 m, .slice A l.length c] ∧ Below w.heap.size w wr) (fun i _ => l.length - (intOf i).toNat)
  case atStart => exact ⟨0, by omega, rfl, rfl, P, by go_grown⟩
  case round =>
    obtain ⟨k, hk, rfl, hall, P', hb⟩ := hrel
    clear hB Pc P
    have hB := hb
    have P := P'
    have Pc := P.c4
    clear hb P'
    by_cases hlt : k < l.length
    · obtain ⟨b', off, x, rfl, hbl, hx, hd, _, hc⟩ := (hr.below hB).at_ hlt
      rw [hd] at hall
      have q0 := bq_cell Pc.1
      have q1 := bq_cell Pc.2.1
      have q2 := bq_cell Pc.2.2.1
      have q3 := bq_cell Pc.2.2.2
      have q4 := bq_cell hc
      have H := Lib.hid hall
      have Hb := Lib.hid hB
      have HP := Lib.hid P
      clear hall hd hx hr hc hB P
      cases hin : inB x 0 (wrap64 (m - 1))
      · have hi := Lib.hid hin
        clear hin
        go_wp2
        (refine wp_region_quiet_bel (by kernel_rfl) (by kernel_rfl) ?_; (repeat (first | go_big_quiet_step ((go_at_call 90; exact Calls.bel_of_same ((l01In_any _ _ _ _).mono (fun e w' h => ⟨h.1.trans (ret_bool hi.out), h.2⟩)))) | quiet_step ((go_at_call 90; exact Calls.bel_of_same ((l01In_any _ _ _ _).mono (fun e w' h => ⟨h.1.trans (ret_bool hi.out), h.2⟩)))))); refine wpQuiet_nil ?_; intro wq hw0; obtain ⟨⟨_, hbq⟩, hw1⟩ := hw0; subst hw1; try dsimp only)
        go_wp2
        go_ret
        exact ⟨ret_bool (by rw [patOk_eq, H.out]; simp [hi.out]), bl_trans Hb.out hbq⟩
      · have hi := Lib.hid hin
        clear hin
        go_wp2
        (refine wp_region_quiet_bel (by kernel_rfl) (by kernel_rfl) ?_; (repeat (first | go_big_quiet_step ((go_at_call 90; exact Calls.bel_of_same ((l01In_any _ _ _ _).mono (fun e w' h => ⟨h.1.trans (ret_bool hi.out), h.2⟩)))) | quiet_step ((go_at_call 90; exact Calls.bel_of_same ((l01In_any _ _ _ _).mono (fun e w' h => ⟨h.1.trans (ret_bool hi.out), h.2⟩)))))); refine wpQuiet_nil ?_; intro wq hw0; obtain ⟨⟨_, hbq⟩, hw1⟩ := hw0; subst hw1; try dsimp only)
        go_wp2
        go_roundw
        case rel => exact ⟨k + 1, by omega, by go_num, by rw [H.out]; simp [hi.out], HP.out.bel hbq, bl_trans Hb.out hbq⟩
        case measure => simp [intOf]; omega
    · have h1 : l.drop k = [] := List.drop_eq_nil_of_le (by omega)
      rw [h1] at hall
      have H := Lib.hid hall
      clear hall h1 hr
      by_cases h : inB a 1 4 = true ∧ inB b 1 4 = true ∧ inB m 2 9 = true
      · obtain ⟨h1, h2, h3⟩ := h
        have i1 := inB_true.1 h1
        have i2 := inB_true.1 h2
        have i4 := small_mul i1.1 i1.2 i2.1 i2.2
        by_cases h4 : (l.length : Int) = a * b
        · have h4' := Lib.hid h4
          have hq : ((l.length : Int) == a * b) = true := by simp [h4]
          clear h4
          go_wp2_with (go_at_call 90; refine (l01In_any _ _ _ _).mono ?_; rintro e wn ⟨rfl, rfl⟩)
          go_ret
          exact ⟨ret_bool (by rw [patOk_eq, H.out]; simp [h1, h2, h3, h4'.out]), hB⟩
        · have h4' := Lib.hid h4
          have hq : ((l.length : Int) == a * b) = false := by simp [h4]
          clear h4
          go_wp2_with (go_at_call 90; refine (l01In_any _ _ _ _).mono ?_; rintro e wn ⟨rfl, rfl⟩)
          go_ret
          exact ⟨ret_bool (by rw [patOk_eq, H.out]; simp [h1, h2, h3, h4'.out]), hB⟩
      · by_cases h1 : inB a 1 4 = true
        · by_cases h2 : inB b 1 4 = true
          · have h3 : inB m 2 9 = false := by
              cases h3 : inB m 2 9
              · rfl
              · exact absurd ⟨h1, h2, h3⟩ h
            clear h
            go_wp2_with (go_at_call 90; refine (l01In_any _ _ _ _).mono ?_; rintro e wn ⟨rfl, rfl⟩)
            go_ret
            exact ⟨ret_bool (by simp [patOk, h3]), hB⟩
          · have h2' : inB b 1 4 = false := by simpa using h2
            clear h h2
            go_wp2_with (go_at_call 90; refine (l01In_any _ _ _ _).mono ?_; rintro e wn ⟨rfl, rfl⟩)
            go_ret
            exact ⟨ret_bool (by simp [patOk, h2']), hB⟩
        · have h1' : inB a 1 4 = false := by simpa using h1
          clear h h1
          go_wp2_with (go_at_call 90; refine (l01In_any _ _ _ _).mono ?_; rintro e wn ⟨rfl, rfl⟩)
          go_ret
          exact ⟨ret_bool (by simp [patOk, h1']), hB⟩
end Go.Proofs.Ythclolooidnniaa

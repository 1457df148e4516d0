/-
  Contracts of the functions on regions (RegionOk, both; the laws' own copy, comparison, size and mark): what each returns, as a function of the rows; nothing that was there is written; at most 1048576 rows.
-/
import Derived.Test.YtoehmocamaamcaaOwn
import Derived.Test.YtoehmocamaamcaaInts
namespace Go.Proofs.Ytoehmocamaamcaa
open Go.ChangeShapes Go.WideShapes Go.ChangeAt Go.RowKit Go.Deep
set_option linter.unusedVariables false

theorem res_region {fn : Func} {s g : Nat} (hres : fn.results = #[.cell s 34]) {tmps : Array Value} {w : World} {a : Value}
    (h1 : tmps.getD s undef = .pointer (some ⟨g, 0, none⟩)) (B : Blk w g 34 [a]) : (results fn tmps).run Try.prog w = .ok (.agg #[a]) w := by
  have c1 := B.c1
  simp only [Array.getD_eq_getD_getElem?] at h1
  simp [results, hres, h1, go_sem, c1]
def regOk (l : List Int) : Bool := decide (l.length ≤ 8) && l.all fun x => inB x 0 255
theorem RegionOk_i (A : Option Addr) (c : Nat) (l : List Int) (w : World) (hl : l.length ≤ 1048576) (hr : RdI w A l) :
    Calls Try.prog 58 #[.agg #[.slice A l.length c]] w fun e w' => e = .returned (.bool (regOk l)) ∧ Below w.heap.size w w' := by
  have hr' := Lib.hid (hr.below ((Below.refl _ _).alloc (Nat.le_refl _) (.cells #[.slice A l.length c] 34)))
  clear hr
  by_cases h : l.length ≤ 8
  · have h' := Lib.hid h
    have hq : decide ((l.length : Int) ≤ 8) = true := by simp; omega
    clear h
    go_enter Try.func58, Try.ntmps58
    go_wp2_with (go_at_call 86; refine (allWithin_any A c l _ _ _ hl hr'.out).mono ?_; rintro e wn ⟨rfl, rfl⟩)
    go_ret
    exact ⟨ret_bool (by simp [regOk, h'.out]), by go_grown⟩
  · have h' := Lib.hid h
    have hq : decide ((l.length : Int) ≤ 8) = false := by simp; omega
    clear h
    go_enter Try.func58, Try.ntmps58
    go_wp2_with (go_at_call 86; refine (allWithin_any A c l _ _ _ hl hr'.out).mono ?_; rintro e wn ⟨rfl, rfl⟩)
    go_ret
    exact ⟨ret_bool (by simp [regOk, h'.out]), by go_grown⟩
set_option maxHeartbeats 1000000 in
theorem RegionOk_s (A : Option Addr) (c : Nat) (l : List Int) (w : World) (hl : l.length ≤ 1048576) (hr : RdI w A l) :
    Calls Try.prog 55 #[.agg #[.slice A l.length c]] w fun e w' => e = .returned (.bool (regOk l)) ∧ Below w.heap.size w w' := by
  (have hB := Below.refl w.heap.size w; have P := Blk.new w 34 [.slice A l.length c]; have Pc := P.c1)
  go_enter Try.func55, Try.ntmps55
  go_wp2
  go_loopw [3] (fun i wr => ∃ k : Nat, k ≤ l.length ∧ i = .int .i64 k ∧ (l.all fun x => inB x 0 255) = ((l.drop k).all fun x => inB x 0 255) ∧ Blk wr w.heap.size 34 [.slice A l.length c] ∧ Below w.heap.size w wr) (fun i _ => l.length - (intOf i).toNat)
  case atStart => exact ⟨0, by omega, rfl, rfl, P, by go_grown⟩
  case round =>
    obtain ⟨k, hk, rfl, hall, P', hb⟩ := hrel
    clear hB Pc P
    have hB := hb
    have P := P'
    have Pc := P.c1
    clear hb P'
    by_cases hlt : k < l.length
    · obtain ⟨b', off, x, rfl, hbl, hx, hd, _, hc⟩ := (hr.below hB).at_ hlt
      rw [hd] at hall
      have H := Lib.hid hall
      have HP := Lib.hid P
      clear hall hd hx hr P
      cases hin : inB x 0 255
      · have hi := Lib.hid hin
        clear hin
        go_wp2_with (go_at_call 43; refine (l01In_any _ _ _ _).mono ?_; rintro e wn ⟨h1, rfl⟩; replace h1 := h1.trans (ret_bool hi.out); subst h1)
        go_ret
        exact ⟨ret_bool (by rw [regOk, H.out]; simp [hi.out]), hB⟩
      · have hi := Lib.hid hin
        clear hin
        go_wp2_with (go_at_call 43; refine (l01In_any _ _ _ _).mono ?_; rintro e wn ⟨h1, rfl⟩; replace h1 := h1.trans (ret_bool hi.out); subst h1)
        go_roundw
        case rel => exact ⟨k + 1, by omega, by go_num, by rw [H.out]; simp [hi.out], HP.out, hB⟩
        case measure => simp [intOf]; omega
    · have h1 : l.drop k = [] := List.drop_eq_nil_of_le (by omega)
      rw [h1] at hall
      have H := Lib.hid hall
      clear hall h1 hr
      go_wp2
      go_ret
      exact ⟨ret_bool (by rw [regOk, H.out]; simp; omega), hB⟩
theorem szRegion_any (A : Option Addr) (c n : Nat) (left : Int) (w : World) (h1 : -1 ≤ left) (h2 : left ≤ 1048576) (hn : n ≤ maxLen) :
    Calls Try.prog 16 #[.agg #[.slice A n c], .int .i64 left] w fun e w' => e = .returned (.int .i64 (szSub left n)) ∧ Below w.heap.size w w' := by
  by_cases h : szSub left n < 0
  · go_enter Try.func16, Try.ntmps16
    go_wp2_with (go_at_call 53; refine (szIntS_any _ _ _ _ _ (by omega) (by omega) (by assumption)).mono ?_; rintro e wn ⟨rfl, rfl⟩)
    go_ret
    exact ⟨ret_int (by have := szSub_le left n h1 h2; omega), by go_grown⟩
  · go_enter Try.func16, Try.ntmps16
    go_wp2_with (go_at_call 53; refine (szIntS_any _ _ _ _ _ (by omega) (by omega) (by assumption)).mono ?_; rintro e wn ⟨rfl, rfl⟩)
    go_ret
    exact ⟨rfl, by go_grown⟩
set_option maxHeartbeats 1000000 in
theorem toRegion_any (A : Option Addr) (c : Nat) (l : List Int) (w : World) (hl : l.length ≤ 1048576) (hr : RdI w A l) :
    Calls Try.prog 18 #[.agg #[.slice A l.length c]] w fun e w' => ∃ v, e = .returned (.agg #[v]) ∧ OwI w.heap.size w' v l ∧ Below w.heap.size w w' := by
  have hr' := Lib.hid hr
  clear hr
  have hB := Below.refl w.heap.size w
  have O := Blk.new3 w (.cells #[.slice A l.length c] 31) (.cells #[.slice none 0 0] 34) 34 [.slice none 0 0]
  have R := (Blk.new2 w (.cells #[.slice A l.length c] 31) 34 [.slice none 0 0]).alloc (.cells #[.slice none 0 0] 34)
  have Oc := O.c1
  have Rc := R.c1
  go_enter Try.func18, Try.ntmps18
  go_wp2_with fail
  (refine (toIntS_any A c l _ hl (hr'.out.below (by go_grown))).mono ?_; rintro e wn ⟨v, rfl, ⟨⟨A1, c1, rfl⟩, o1, p1⟩, hbn⟩; have hSz := bl_sz (bl_trans hB (by go_grown)) hbn; replace hB := bl_trans (bl_trans hB (by go_grown)) hbn; replace O := O.bel (bl_trans (by go_grown) hbn); replace Oc := O.c1; replace R := R.bel (bl_trans (by go_grown) hbn); replace Rc := R.c1; have I := Lib.hid (show OwI _ wn _ l from ⟨⟨A1, c1, rfl⟩, o1, p1⟩); clear o1 p1; clear hbn)
  have Of := O.frozen 0
  have Rf0 := R.frozen 0
  have F : _ = some (Value.slice A1 l.length c1) := (O.set_ 0 (.slice A1 l.length c1)).cell 0
  have R4 := Lib.hid ((R.farN (w.heap.size + 1 + 1) 0 (by omega) (.slice A1 l.length c1)).set_ 0 (.slice A1 l.length c1))
  go_wp2_with fail
  have hfin : Below w.heap.size w _ := (hB.setCell (p := ⟨w.heap.size + 1 + 1, 0, none⟩) (by show w.heap.size ≤ w.heap.size + 1 + 1; omega) (.slice A1 l.length c1)).setCell (p := ⟨w.heap.size + 1, 0, none⟩) (by show w.heap.size ≤ w.heap.size + 1; omega) (.slice A1 l.length c1)
  exact bodyPost_ret (res_region rfl rfl R4.out) rfl ⟨_, rfl, OwI.mono ((I.out.set_ (p := ⟨w.heap.size + 1 + 1, 0, none⟩) (by simp) _).set_ (p := ⟨w.heap.size + 1, 0, none⟩) (by simp; try omega) _) (by simp; omega), hfin⟩
set_option maxHeartbeats 1000000 in
theorem eqRegion_any (A B : Option Addr) (c d : Nat) (l k : List Int) (w : World) (hl : l.length ≤ 1048576) (hr : RdI w A l) (hs : RdI w B k) :
    Calls Try.prog 20 #[.agg #[.slice A l.length c], .agg #[.slice B k.length d]] w fun e w' => e = .returned (.bool (decide (l = k))) ∧ Below w.heap.size w w' := by
  (have hB := Below.refl w.heap.size w; have P := (Blk.new w 34 [.slice A l.length c]).alloc (.cells #[.slice B k.length d] 34); have Pc := P.c1; have Q := Blk.new2 w (.cells #[.slice A l.length c] 34) 34 [.slice B k.length d]; have Qc := Q.c1)
  have hr' := Lib.hid hr
  have hs' := Lib.hid hs
  clear hr hs
  go_enter Try.func20, Try.ntmps20
  go_wp2_with (go_at_call 63; refine (eqIntS_any A B c d l k _ hl (hr'.out.below (by go_grown)) (hs'.out.below (by go_grown))).mono ?_; rintro e wn ⟨rfl, hbn⟩; replace hB := bl_trans (bl_trans hB (by go_grown)) hbn)
  all_goals go_ret
  all_goals exact ⟨ret_bool (by simp_all), (by first | (go_grown; done) | exact bl_trans hB (by go_grown))⟩
end Go.Proofs.Ytoehmocamaamcaa

/-
  Contracts of the functions on regions (RegionOk, both; the laws' own copy, comparison, size and mark): what each returns, as a function of the rows; nothing that was there is written; at most 1048576 rows.
-/
import Derived.Test.YtdcjhfmkkcakhaaOwn
import Derived.Test.YtdcjhfmkkcakhaaInts
namespace Go.Proofs.Ytdcjhfmkkcakhaa
open Go.ChangeShapes Go.WideShapes Go.ChangeAt Go.RowKit Go.Deep
set_option linter.unusedVariables false

theorem res_region {fn : Func} {s g : Nat} (hres : fn.results = #[.cell s 31]) {tmps : Array Value} {w : World} {a : Value}
    (h1 : tmps.getD s undef = .pointer (some ⟨g, 0, none⟩)) (B : Blk w g 31 [a]) : (results fn tmps).run Try.prog w = .ok (.agg #[a]) w := by
  have c1 := B.c1
  simp only [Array.getD_eq_getD_getElem?] at h1
  simp [results, hres, h1, go_sem, c1]
def regOk (l : List Int) : Bool := decide (l.length ≤ 8) && l.all fun x => inB x 0 255
theorem RegionOk_i (A : Option Addr) (c : Nat) (l : List Int) (w : World) (hl : l.length ≤ 1048576) (hr : RdI w A l) :
    Calls Try.prog 98 #[.agg #[.slice A l.length c]] w fun e w' => e = .returned (.bool (regOk l)) ∧ Below w.heap.size w w' := by
  have hr' := Lib.hid (hr.below ((Below.refl _ _).alloc (Nat.le_refl _) (.cells #[.slice A l.length c] 31)))
  clear hr
  by_cases h : l.length ≤ 8
  · have h' := Lib.hid h
    have hq : decide ((l.length : Int) ≤ 8) = true := by simp; omega
    clear h
    go_enter Try.func98, Try.ntmps98
    go_wp2_with (go_at_call 90; refine (allWithin_any A c l _ _ _ hl hr'.out).mono ?_; rintro e wn ⟨rfl, rfl⟩)
    go_ret
    exact ⟨ret_bool (by simp [regOk, h'.out]), by go_grown⟩
  · have h' := Lib.hid h
    have hq : decide ((l.length : Int) ≤ 8) = false := by simp; omega
    clear h
    go_enter Try.func98, Try.ntmps98
    go_wp2_with (go_at_call 90; refine (allWithin_any A c l _ _ _ hl hr'.out).mono ?_; rintro e wn ⟨rfl, rfl⟩)
    go_ret
    exact ⟨ret_bool (by simp [regOk, h'.out]), by go_grown⟩
set_option maxHeartbeats 1000000 in
theorem RegionOk_s (A : Option Addr) (c : Nat) (l : List Int) (w : World) (hl : l.length ≤ 1048576) (hr : RdI w A l) :
    Calls Try.prog 94 #[.agg #[.slice A l.length c]] w fun e w' => e = .returned (.bool (regOk l)) ∧ Below w.heap.size w w' := by
  (have hB := Below.refl w.heap.size w; have P := Blk.new w 31 [.slice A l.length c]; have Pc := P.c1)
  go_enter Try.func94, Try.ntmps94
  go_wp2
  go_loopw [3] (fun i wr => ∃ k : Nat, k ≤ l.length ∧ i = .int .i64 k ∧ (l.all fun x => inB x 0 255) = ((l.drop k).all fun x => inB x 0 255) ∧ Blk wr w.heap.size 31 [.slice A l.length c] ∧ Below w.heap.size w wr) (fun i _ => l.length - (intOf i).toNat)
  case atStart => exact ⟨0, by omega, rfl, rfl, P, by go_grown⟩
  case round =>
    obtain ⟨k, hk, rfl, hall, P', hb⟩ := hrel
    clear hB Pc P
    have hB := hb
    have P := P'
    have Pc := P.c1
    clear hb P'
    by_cases hlt : k < l.length
    · obtain ⟨b', off, x, rfl, hbl, hx, hd, _, hc⟩ := (hr.below hB).at_ hlt
      rw [hd] at hall
      have H := Lib.hid hall
      have HP := Lib.hid P
      clear hall hd hx hr P
      cases hin : inB x 0 255
      · have hi := Lib.hid hin
        clear hin
        go_wp2_with (go_at_call 128; refine (l01In_any _ _ _ _).mono ?_; rintro e wn ⟨h1, rfl⟩; replace h1 := h1.trans (ret_bool hi.out); subst h1)
        go_ret
        exact ⟨ret_bool (by rw [regOk, H.out]; simp [hi.out]), hB⟩
      · have hi := Lib.hid hin
        clear hin
        go_wp2_with (go_at_call 128; refine (l01In_any _ _ _ _).mono ?_; rintro e wn ⟨h1, rfl⟩; replace h1 := h1.trans (ret_bool hi.out); subst h1)
        go_roundw
        case rel => exact ⟨k + 1, by omega, by go_num, by rw [H.out]; simp [hi.out], HP.out, hB⟩
        case measure => simp [intOf]; omega
    · have h1 : l.drop k = [] := List.drop_eq_nil_of_le (by omega)
      rw [h1] at hall
      have H := Lib.hid hall
      clear hall h1 hr
      go_wp2
      go_ret
      exact ⟨ret_bool (by rw [regOk, H.out]; simp; omega), hB⟩
end Go.Proofs.Ytdcjhfmkkcakhaa

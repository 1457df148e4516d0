/-
  The walk of the law FnExactAreEven: it returns true for every list; no condition.
-/
import Derived.Test.YtdbnhbffdndkgaaInts
namespace Go.Proofs.Ytdbnhbffdndkgaa
open Go.ChangeShapes Go.WideShapes Go.ChangeAt Go.RowKit Go.Deep

def areEven : List Int → Bool
  | [] => false
  | a :: l => (a :: l).all fun x => x == a
theorem AreEven_i (A : Option Addr) (c : Nat) (l : List Int) (w : World) (hl : l.length ≤ 1048576) (hr : RdI w A l) :
    Calls Try.prog 27 #[.slice A l.length c] w fun e w' => e = .returned (.bool (areEven l)) ∧ Below w.heap.size w w' := by
  cases l with
  | nil =>
    go_enter Try.func27, Try.ntmps27
    go_wp2
    refine wp_loop_rounds 1 ?_
    rw [rounds_succ]
    go_wp2
    go_ret
    exact ⟨rfl, Below.refl _ _⟩
  | cons a0 l0 =>
    obtain ⟨b, off, x0, hA, hbl, hx0, _, _, hc0⟩ := hr.at_ (k := 0) (by simp)
    simp only [List.getElem?_cons_zero, Option.some.injEq] at hx0
    subst hx0
    subst hA
    rw [Nat.add_zero] at hc0
    have hae : areEven (a0 :: l0) = (a0 :: l0).all fun x => x == a0 := rfl
    have hpos : 0 < (a0 :: l0).length := by simp
    have hae' := Lib.hid hae
    clear hae
    generalize a0 :: l0 = l at *
    go_enter Try.func27, Try.ntmps27
    go_wp2
    go_loop [7] (fun i => ∃ k : Nat, k ≤ l.length ∧ i = .int .i64 k ∧ (l.all fun x => x == a0) = ((l.drop k).all fun x => x == a0)) (fun i => l.length - (intOf i).toNat)
    case atStart => exact ⟨0, by omega, rfl, rfl⟩
    case round =>
      obtain ⟨k, hk, rfl, hall⟩ := hrel
      by_cases hlt : k < l.length
      · obtain ⟨b', off', x, e, hb, hx, hd, hxr, hc⟩ := hr.at_ hlt
        simp only [Option.some.injEq, Addr.mk.injEq, and_true] at e
        obtain ⟨rfl, rfl⟩ := e
        rw [hd] at hall
        have H := Lib.hid hall
        clear hall hd hx hr
        by_cases hin : x = a0
        · have hne : (x != a0) = false := by simp [hin]
          have hin' := Lib.hid hin
          clear hin
          go_wp2
          go_round
          case rel => exact ⟨k + 1, by omega, by go_num, by rw [H.out]; simp [hin'.out]⟩
          case measure => simp [intOf]; omega
        · have hne : (x != a0) = true := by simp [hin]
          have hin' := Lib.hid hin
          clear hin
          go_wp2
          go_ret
          exact ⟨ret_bool (by rw [hae'.out, H.out]; simp [hin'.out]), Below.refl _ _⟩
      · have h1 : l.drop k = [] := List.drop_eq_nil_of_le (by omega)
        rw [h1] at hall
        have H := Lib.hid hall
        clear hall h1 hr
        go_wp2
        go_ret
        exact ⟨ret_bool (by rw [hae'.out, H.out]; simp), Below.refl _ _⟩
theorem AreEven_s (A : Option Addr) (c : Nat) (l : List Int) (w : World) (hl : l.length ≤ 1048576) (hr : RdI w A l) :
    Calls Try.prog 25 #[.slice A l.length c] w fun e w' => e = .returned (.bool (areEven l)) ∧ Below w.heap.size w w' := by
  cases l with
  | nil =>
    go_enter Try.func25, Try.ntmps25
    go_wp2
    refine wp_loop_rounds 1 ?_
    rw [rounds_succ]
    go_wp2
    go_ret
    exact ⟨rfl, Below.refl _ _⟩
  | cons a0 l0 =>
    obtain ⟨b, off, x0, hA, hbl, hx0, _, _, hc0⟩ := hr.at_ (k := 0) (by simp)
    simp only [List.getElem?_cons_zero, Option.some.injEq] at hx0
    subst hx0
    subst hA
    rw [Nat.add_zero] at hc0
    have hae : areEven (a0 :: l0) = (a0 :: l0).all fun x => x == a0 := rfl
    have hpos : 0 < (a0 :: l0).length := by simp
    have hae' := Lib.hid hae
    clear hae
    generalize a0 :: l0 = l at *
    go_enter Try.func25, Try.ntmps25
    go_wp2
    go_loopw [3] (fun i wr => ∃ k : Nat, k ≤ l.length ∧ i = .int .i64 k ∧ (l.all fun x => x == a0) = ((l.drop k).all fun x => x == a0) ∧ Below w.heap.size w wr) (fun i _ => l.length - (intOf i).toNat)
    case atStart => exact ⟨0, by omega, rfl, rfl, Below.refl _ _⟩
    case round =>
      obtain ⟨k, hk, rfl, hall, hb⟩ := hrel
      by_cases hlt : k < l.length
      · obtain ⟨b', off', x, e, hb', hx, hd, hxr, hc⟩ := (hr.below hb).at_ hlt
        simp only [Option.some.injEq, Addr.mk.injEq, and_true] at e
        obtain ⟨rfl, rfl⟩ := e
        rw [hd] at hall
        have q0 := bq_cell ((hb.cell (p := ⟨b, off, none⟩) hbl).trans hc0)
        have q1 := bq_cell hc
        have H := Lib.hid hall
        have Hb := Lib.hid hb
        clear hall hd hx hr hc hc0 hb
        by_cases hin : x = a0
        · have hne : (x != a0) = false := by simp [hin]
          have hin' := Lib.hid hin
          clear hin
          go_wp2
          (refine wp_region_quiet_bel (by kernel_rfl) (by kernel_rfl) ?_; (repeat (first | go_big_quiet_step (fail) | quiet_step (fail))); refine wpQuiet_nil ?_; intro wq hw0; obtain ⟨⟨_, hbq⟩, hw1⟩ := hw0; subst hw1; try dsimp only)
          go_wp2
          go_roundw
          case rel => exact ⟨k + 1, by omega, by go_num, by rw [H.out]; simp [hin'.out], bl_trans Hb.out hbq⟩
          case measure => simp [intOf]; omega
        · have hne : (x != a0) = true := by simp [hin]
          have hin' := Lib.hid hin
          clear hin
          go_wp2
          (refine wp_region_quiet_bel (by kernel_rfl) (by kernel_rfl) ?_; (repeat (first | go_big_quiet_step (fail) | quiet_step (fail))); refine wpQuiet_nil ?_; intro wq hw0; obtain ⟨⟨_, hbq⟩, hw1⟩ := hw0; subst hw1; try dsimp only)
          go_wp2
          go_ret
          exact ⟨ret_bool (by rw [hae'.out, H.out]; simp [hin'.out]), bl_trans Hb.out hbq⟩
      · have h1 : l.drop k = [] := List.drop_eq_nil_of_le (by omega)
        rw [h1] at hall
        have H := Lib.hid hall
        clear hall h1 hr
        go_wp2
        go_ret
        exact ⟨ret_bool (by rw [hae'.out, H.out]; simp), hb⟩
theorem walk_FnExactAreEven (A : Option Addr) (c : Nat) (l : List Int) (w : World) (hr : RdI w A l) (_ : l.length ≤ maxLen) :
    Calls Try.prog 7 #[.slice A l.length c] w fun e w' => e = .returned (.bool true) ∧ Below w.heap.size w w' := by
  by_cases b1 : l.length ≤ 1048576
  · have hr' := Lib.hid hr
    clear hr
    have hB := Below.refl w.heap.size w
    go_enter Try.func7, Try.ntmps7
    go_wp2_with fail
    (refine (toIntS_any A c l _ b1 (hr'.out.below hB)).mono ?_; rintro e wn ⟨v, rfl, ⟨⟨A1, c1, rfl⟩, o1, p1⟩, hbn⟩; replace hB := bl_trans (bl_trans hB (by go_grown)) hbn; have R1 := Lib.hid (OwI.rd ⟨⟨A1, c1, rfl⟩, o1, p1⟩); clear o1 p1; clear hbn)
    go_wp2_with fail
    (refine (AreEven_s A1 c1 l _ b1 R1.out).mono ?_; rintro e wn ⟨rfl, hbn⟩; replace hB := bl_trans (bl_trans hB (by go_grown)) hbn; clear hbn)
    go_wp2_with fail
    (refine (toIntS_any A c l _ b1 (hr'.out.below hB)).mono ?_; rintro e wn ⟨v, rfl, ⟨⟨A2, c2, rfl⟩, o1, p1⟩, hbn⟩; replace hB := bl_trans (bl_trans hB (by go_grown)) hbn; have R2 := Lib.hid (OwI.rd ⟨⟨A2, c2, rfl⟩, o1, p1⟩); clear o1 p1; clear hbn)
    go_wp2_with fail
    (refine (AreEven_i A2 c2 l _ b1 R2.out).mono ?_; rintro e wn ⟨rfl, hbn⟩; replace hB := bl_trans (bl_trans hB (by go_grown)) hbn; replace R2 := Lib.hid (R2.out.below hbn); clear hbn)
    go_wp2_with fail
    (refine (toIntS_any A c l _ b1 (hr'.out.below hB)).mono ?_; rintro e wn ⟨v, rfl, ⟨⟨A3, c3, rfl⟩, o1, p1⟩, hbn⟩; replace hB := bl_trans (bl_trans hB (by go_grown)) hbn; replace R2 := Lib.hid (R2.out.below hbn); have R3 := Lib.hid (OwI.rd ⟨⟨A3, c3, rfl⟩, o1, p1⟩); clear o1 p1; clear hbn)
    go_wp2_with fail
    (refine (eqIntS_any A2 A3 c2 c3 l l _ b1 R2.out R3.out).mono ?_; rintro e wn ⟨rfl, hbn⟩; replace hB := bl_trans (bl_trans hB (by go_grown)) hbn; clear hbn)
    go_wp2_with fail
    go_ret
    exact ⟨rfl, (by first | (go_grown; done) | exact bl_trans hB (by go_grown))⟩
  · have hl' : 1048576 < (l.length : Int) := by omega
    go_enter Try.func7, Try.ntmps7
    go_wp2
    go_ret
    exact ⟨rfl, Below.refl _ _⟩
end Go.Proofs.Ytdbnhbffdndkgaa

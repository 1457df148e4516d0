/-
  Contracts of the functions on colors of floors (areFewDominoes, areApart, l31Ok, l31Apart, mayHave, AreProper, GreedyColors): what each returns, as a function of its arguments; nothing that was there is written; lists of at most 1048576.
-/
import Derived.Test.YtdcjhfmkkcakhaaDoms
import Derived.Test.YtdcjhfmkkcakhaaTouch
import Derived.Test.YtdcjhfmkkcakhaaIn
namespace Go.Proofs.Ytdcjhfmkkcakhaa
open Go.ChangeShapes Go.WideShapes Go.ChangeAt Go.RowKit Go.Deep
set_option linter.unusedVariables false

theorem ovl_comm (x y : Int) (z : Bool) (a b : Int) (c : Bool) : ovl x y z a b c = ovl a b c x y z := by
  rw [Bool.eq_iff_iff]
  simp only [ovl, Bool.and_eq_true, Bool.or_eq_true, decide_eq_true_eq]
  constructor
  · rintro ⟨⟨h1, h2⟩, h3⟩; exact ⟨⟨h2, h1⟩, by omega⟩
  · rintro ⟨⟨h1, h2⟩, h3⟩; exact ⟨⟨h2, h1⟩, by omega⟩
theorem nbr_comm (a b c d : Int) : nbr a b c d = nbr c d a b := by
  have h1 : (a - c) * (a - c) = (c - a) * (c - a) := by rw [← Int.neg_sub c a, Int.neg_mul_neg]
  have h2 : (b - d) * (b - d) = (d - b) * (d - b) := by rw [← Int.neg_sub d b, Int.neg_mul_neg]
  unfold nbr
  rw [h1, h2, Bool.and_comm (cellOk a b)]
theorem touch_comm (x y : Int) (z : Bool) (a b : Int) (c : Bool) : touch x y z a b c = touch a b c x y z := by
  unfold touch
  rw [ovl_comm x y z, nbr_comm x y a b, nbr_comm x y (sndX a c), nbr_comm (sndX x z) (sndY y z) a b, nbr_comm (sndX x z) (sndY y z) (sndX a c)]
  cases domOk x y z <;> cases domOk a b c <;> cases ovl a b c x y z <;> cases nbr a b x y <;> cases nbr (sndX a c) (sndY b c) x y <;> cases nbr a b (sndX x z) (sndY y z) <;> cases nbr (sndX a c) (sndY b c) (sndX x z) (sndY y z) <;> rfl
def dAt (l : List Dm) (i : Nat) : Dm := (l[i]?).getD (0, 0, false)
theorem dAt_eq {l : List Dm} {i : Nat} {d : Dm} (h : l[i]? = some d) : dAt l i = d := by simp [dAt, h]
def ovlAt (l : List Dm) (i k : Nat) : Bool := ovl (dAt l i).1 (dAt l i).2.1 (dAt l i).2.2 (dAt l k).1 (dAt l k).2.1 (dAt l k).2.2
def touchAt (l : List Dm) (i k : Nat) : Bool := touch (dAt l i).1 (dAt l i).2.1 (dAt l i).2.2 (dAt l k).1 (dAt l k).2.1 (dAt l k).2.2
theorem ovlAt_comm (l : List Dm) (i k : Nat) : ovlAt l i k = ovlAt l k i := ovl_comm ..
theorem touchAt_comm (l : List Dm) (i k : Nat) : touchAt l i k = touchAt l k i := touch_comm ..
def allOk (l : List Dm) : Bool := l.all fun d => domOk d.1 d.2.1 d.2.2
def few (l : List Dm) : Bool := allOk l && decide (l.length ≤ 18)
def apart (l : List Dm) : Bool := few l && (List.range l.length).all fun k => (List.range k).all fun i => !ovlAt l i k
theorem apart_iff {l : List Dm} : apart l = true ↔ few l = true ∧ ∀ k < l.length, ∀ i < k, ovlAt l i k = false := by simp [apart]
theorem apart_no {l : List Dm} {i k : Nat} (hk : k < l.length) (hi : i < k) (h : ovlAt l i k = true) : apart l = false := by
  cases h' : apart l
  · rfl
  · have := (apart_iff.1 h').2 k hk i hi
    rw [this] at h; cases h
theorem InD.cap {lo hi : Nat} {w : World} {A : Option Addr} {n c : Nat} {l : List Dm} (h : InD lo hi w (.slice A n c) l) : n ≤ c := by
  rcases h.1.2.1.2 with ⟨e, h0⟩ | ⟨g, cap, cur, hv, _, _, hn, _⟩
  · injection e with e1 e2 e3; omega
  · injection hv with e1 e2 e3; omega
set_option maxHeartbeats 1000000 in
theorem areFew_any (A : Option Addr) (c : Nat) (l : List Dm) (w : World) (hl : l.length ≤ 1048576) (hr : RdD w A l) :
    Calls Try.prog 139 #[.slice A l.length c] w fun e w' => e = .returned (.bool (few l)) ∧ Below w.heap.size w w' := by
  have hr' := Lib.hid hr
  clear hr
  go_enter Try.func139, Try.ntmps139
  go_wp2
  go_loopw [7] (fun i wr => ∃ k : Nat, k ≤ l.length ∧ i = .int .i64 k ∧ (allOk l) = (allOk (l.drop k)) ∧ Below w.heap.size w wr) (fun i _ => l.length - (intOf i).toNat)
  case atStart => exact ⟨0, by omega, rfl, rfl, Below.refl _ _⟩
  case round =>
    obtain ⟨k, hk, rfl, hall, hB⟩ := hrel
    by_cases hlt : k < l.length
    · obtain ⟨b', off, x, y, z, rfl, hbl, hx, hd, _, _, c0, c1, c2⟩ := (hr'.out.below hB).at_ hlt
      rw [hd] at hall
      have H := Lib.hid hall
      have Q := Blk.new wr 53 [.int .i64 x, .int .i64 y, .bool z]
      have Qc := Q.c3
      clear hall hd hx
      cases hin : domOk x y z
      · go_wp2_with (go_at_call 143; refine (DominoOk_i _ _ _ _).mono ?_; rintro e wn ⟨rfl, hbn⟩; have hSz := bl_sz (bl_trans hB (by go_grown)) hbn; replace hB := bl_trans (bl_trans hB (by go_grown)) hbn; replace Q := Q.bel (bl_trans (by go_grown) hbn); replace Qc := Q.c3; clear hbn)
        go_ret
        exact ⟨ret_bool (by rw [few, H.out]; simp [allOk, hin]), hB⟩
      · go_wp2_with (go_at_call 143; refine (DominoOk_i _ _ _ _).mono ?_; rintro e wn ⟨rfl, hbn⟩; have hSz := bl_sz (bl_trans hB (by go_grown)) hbn; replace hB := bl_trans (bl_trans hB (by go_grown)) hbn; replace Q := Q.bel (bl_trans (by go_grown) hbn); replace Qc := Q.c3; clear hbn)
        go_roundw
        case rel => exact ⟨k + 1, by omega, by go_num, by rw [H.out]; simp [allOk, hin], hB⟩
        case measure => simp [intOf]; omega
    · have h1 : l.drop k = [] := List.drop_eq_nil_of_le (by omega)
      rw [h1] at hall
      have H := Lib.hid hall
      clear hall h1
      go_wp2
      go_ret
      exact ⟨ret_bool (by rw [few, H.out]; simp [allOk]; omega), hB⟩
set_option maxHeartbeats 2000000 in
theorem areApart_any (A : Option Addr) (c : Nat) (l : List Dm) (w : World) (hl : l.length ≤ 1048576) (hr : RdD w A l) (hc : l.length ≤ c) :
    Calls Try.prog 141 #[.slice A l.length c] w fun e w' => e = .returned (.bool (apart l)) ∧ Below w.heap.size w w' := by
  have hr' := Lib.hid hr
  have hB := Below.refl w.heap.size w
  clear hr
  cases hf : few l
  · go_enter Try.func141, Try.ntmps141
    go_wp2_with (go_at_call 139; refine (areFew_any A c l _ hl (hr'.out.below (bl_trans hB (by go_grown)))).mono ?_; rintro e wn ⟨rfl, hbn⟩; have hSz := bl_sz (bl_trans hB (by go_grown)) hbn; replace hB := bl_trans (bl_trans hB (by go_grown)) hbn; clear hbn)
    go_ret
    exact ⟨ret_bool (by simp [apart, hf]), hB⟩
  · go_enter Try.func141, Try.ntmps141
    go_wp2_with (go_at_call 139; refine (areFew_any A c l _ hl (hr'.out.below (bl_trans hB (by go_grown)))).mono ?_; rintro e wn ⟨rfl, hbn⟩; have hSz := bl_sz (bl_trans hB (by go_grown)) hbn; replace hB := bl_trans (bl_trans hB (by go_grown)) hbn; clear hbn)
    go_loopw [12] (fun i wr => ∃ k : Nat, k ≤ l.length ∧ i = .int .i64 k ∧ (∀ k' < k, ∀ i < k', ovlAt l i k' = false) ∧ Below w.heap.size w wr) (fun i _ => l.length - (intOf i).toNat)
    case atStart => exact ⟨0, by omega, rfl, by intro k' h; omega, hB⟩
    case round =>
      obtain ⟨k, hk, rfl, hall, hB'⟩ := hrel
      clear hB
      have hB := hB'
      clear hB'
      have Hall := Lib.hid hall
      clear hall
      by_cases hlt : k < l.length
      · obtain ⟨b', off, x, y, z, rfl, hbl, hx, hd, _, _, c0, c1, c2⟩ := (hr'.out.below hB).at_ hlt
        have Q := Blk.new wr 53 [.int .i64 x, .int .i64 y, .bool z]
        have hBx := bl_alloc hB (.cells #[.int .i64 x, .int .i64 y, .bool z] 53)
        have hx' := Lib.hid hx
        clear hd hx
        go_wp2
        go_loopw [21] (fun i wr' => ∃ j : Nat, j ≤ k ∧ i = .int .i64 j ∧ (∀ i < j, ovlAt l i k = false) ∧ Blk wr' wr.heap.size 53 [.int .i64 x, .int .i64 y, .bool z] ∧ Below w.heap.size w wr') (fun i _ => k - (intOf i).toNat)
        case atStart => exact ⟨0, by omega, rfl, by intro i h; omega, Q, hBx⟩
        case round =>
          obtain ⟨j, hj, rfl, hin, Q', hB'⟩ := hrel
          clear hB Q hBx c0 c1 c2
          have hB := hB'
          clear hB'
          have Hin := Lib.hid hin
          clear hin
          by_cases hjk : j < k
          · obtain ⟨b2, off2, a, b, d, e2, hbl2, hx2, hd2, _, _, d0, d1, d2⟩ := (hr'.out.below hB).at_ (k := j) (by omega)
            injection e2 with e2
            injection e2 with e2 e3
            subst e2
            subst e3
            have R := Blk.new wr 53 [.int .i64 a, .int .i64 b, .bool d]
            have Rc := R.c3
            replace Q' := Q'.alloc (.cells #[.int .i64 a, .int .i64 b, .bool d] 53)
            have Q'c := Q'.c3
            have ho := Lib.hid (show ovlAt l k j = ovl x y z a b d by simp [ovlAt, dAt_eq hx'.out, dAt_eq hx2])
            clear hd2 hx2
            cases hov : ovl x y z a b d
            · go_wp2_with (go_at_call 144; refine (DoOverlap_i _ _ _ _ _ _ _).mono ?_; rintro e wn ⟨rfl, hbn⟩; have hSz := bl_sz (bl_trans hB (by go_grown)) hbn; replace hB := bl_trans (bl_trans hB (by go_grown)) hbn; replace Q' := Q'.bel (bl_trans (by go_grown) hbn); replace Q'c := Q'.c3; replace R := R.bel (bl_trans (by go_grown) hbn); replace Rc := R.c3; clear hbn)
              go_roundw
              case rel => exact ⟨j + 1, by omega, by go_num, fun i hi => by
                by_cases h : i = j
                · subst h; rw [ovlAt_comm, ho.out, hov]
                · exact Hin.out i (by omega), Q', hB⟩
              case measure => simp [intOf]; omega
            · go_wp2_with (go_at_call 144; refine (DoOverlap_i _ _ _ _ _ _ _).mono ?_; rintro e wn ⟨rfl, hbn⟩; have hSz := bl_sz (bl_trans hB (by go_grown)) hbn; replace hB := bl_trans (bl_trans hB (by go_grown)) hbn; replace Q' := Q'.bel (bl_trans (by go_grown) hbn); replace Q'c := Q'.c3; replace R := R.bel (bl_trans (by go_grown) hbn); replace Rc := R.c3; clear hbn)
              go_ret
              exact ⟨ret_bool (apart_no hlt hjk (by rw [ovlAt_comm, ho.out, hov])).symm, hB⟩
          · have hjk2 : j = k := by omega
            subst hjk2
            go_wp2
            go_roundw
            case rel => exact ⟨j + 1, by omega, by go_num, fun k' hk' => by
              by_cases h : k' = j
              · subst h; exact Hin.out
              · exact Hall.out k' (by omega), hB⟩
            case measure => simp [intOf]; omega
      · have hkl : k = l.length := by omega
        subst hkl
        go_wp2
        go_ret
        exact ⟨ret_bool (apart_iff.2 ⟨hf, Hall.out⟩).symm, hB⟩
def cAt (cs : List Int) (k : Nat) : Int := (cs[k]?).getD 0
theorem cAt_eq {l : List Int} {i : Nat} {d : Int} (h : l[i]? = some d) : cAt l i = d := by simp [cAt, h]
def mh (l : List Dm) (cs : List Int) (i : Nat) (c : Int) : Bool := (List.range i).all fun k => !(cAt cs k == c && touchAt l i k)
theorem mh_iff {l : List Dm} {cs : List Int} {i : Nat} {c : Int} : mh l cs i c = true ↔ ∀ k < i, (cAt cs k == c && touchAt l i k) = false := by simp only [mh, List.all_eq_true, List.mem_range, Bool.not_eq_true']
theorem mh_no {l : List Dm} {cs : List Int} {i k : Nat} {c : Int} (hk : k < i) (h1 : (cAt cs k == c) = true) (h2 : touchAt l i k = true) : mh l cs i c = false := by
  cases h' : mh l cs i c
  · rfl
  · have := mh_iff.1 h' k hk
    rw [h1, h2] at this; cases this
set_option maxRecDepth 100000 in
set_option maxHeartbeats 4000000 in
theorem mayHave_any (A : Option Addr) (c : Nat) (l : List Dm) (B : Option Addr) (d : Nat) (cs : List Int) (i : Nat) (col : Int) (w : World) (hl : l.length ≤ 1048576) (hcs : cs.length ≤ 1048576) (hr : RdD w A l) (hc : l.length ≤ c) (hs : RdI w B cs) (hi : i < l.length) (hics : i ≤ cs.length) :
    Calls Try.prog 140 #[.slice A l.length c, .slice B cs.length d, .int .i64 i, .int .i64 col] w fun e w' => e = .returned (.bool (mh l cs i col)) ∧ Below w.heap.size w w' := by
  have hr' := Lib.hid hr
  have hs' := Lib.hid hs
  clear hr hs
  go_enter Try.func140, Try.ntmps140
  go_wp2
  go_loopw [15] (fun q wr => ∃ k : Nat, k ≤ i ∧ q = .int .i64 k ∧ (∀ k' < k, (cAt cs k' == col && touchAt l i k') = false) ∧ Below w.heap.size w wr) (fun q _ => i - (intOf q).toNat)
  case atStart => exact ⟨0, by omega, rfl, (by intro k' h; omega), Below.refl _ _⟩
  case round =>
    obtain ⟨k, hk, rfl, hall, hB⟩ := hrel
    have Hall := Lib.hid hall
    clear hall
    by_cases hlt : k < i
    · obtain ⟨b', off, x, y, z, rfl, hbl, hx, hd, _, _, c0, c1, c2⟩ := (hr'.out.below hB).at_ (k := k) (by omega)
      obtain ⟨b2, off2, a, b, d2, e2, hbl2, hx2, hd2, _, _, d0, d1, d2'⟩ := (hr'.out.below hB).at_ (k := i) hi
      injection e2 with e2
      injection e2 with e2 e3
      subst e2
      subst e3
      obtain ⟨b3, off3, v, rfl, hbl3, hv, hd3, _, v0⟩ := (hs'.out.below hB).at_ (k := k) (by omega)
      have hta := Lib.hid (show touchAt l i k = touch a b d2 x y z by simp [touchAt, dAt_eq hx, dAt_eq hx2])
      have hcv := Lib.hid (cAt_eq hv)
      have hBa := bl_alloc (Below.refl wr.heap.size wr) (.cells #[.int .i64 x, .int .i64 y, .bool z] 53)
      have Q := Blk.new wr 53 [.int .i64 x, .int .i64 y, .bool z]
      have Qc := Q.c3
      have q0 := bq_cell Qc.1
      have q1 := bq_cell Qc.2.1
      have q2 := bq_cell Qc.2.2
      have r0 := bq_cell ((hBa.cell (p := ⟨b', off + i * 3, none⟩) hbl).trans d0)
      have r1 := bq_cell ((hBa.cell (p := ⟨b', off + i * 3 + 1, none⟩) hbl).trans d1)
      have r2 := bq_cell ((hBa.cell (p := ⟨b', off + i * 3 + 2, none⟩) hbl).trans d2')
      have r3 := bq_cell ((hBa.cell (p := ⟨b3, off3 + k, none⟩) hbl3).trans v0)
      have Hb := Lib.hid (bl_trans hB hBa)
      clear hd2 hx2 hd hx hv hd3 d0 d1 d2' v0 hB Q Qc hBa
      cases hcc : v == col
      · go_wp2
        (refine wp_region_quiet_bel (by kernel_rfl) (by kernel_rfl) ?_; (repeat (first | go_big_quiet_step (fail) | quiet_step (fail))); refine wpQuiet_nil ?_; intro wq hw0; obtain ⟨⟨_, hbq⟩, hw1⟩ := hw0; subst hw1; try dsimp only)
        go_wp2
        go_roundw
        case rel => exact ⟨k + 1, by omega, by go_num, (fun k' hk' => by
          by_cases h : k' = k
          · subst h; rw [hcv.out, hcc]; rfl
          · exact Hall.out k' (by omega)), bl_trans Hb.out hbq⟩
        case measure => simp [intOf]; omega
      · cases hov : touch a b d2 x y z
        · have hov' := Lib.hid hov
          clear hov
          go_wp2
          (refine wp_region_quiet_bel (by kernel_rfl) (by kernel_rfl) ?_; (repeat (first | go_big_quiet_step ((go_at_call 62; exact Calls.bel_of ((DoTouch_i _ _ _ _ _ _ _).mono (fun e w' h => ⟨h.1.trans (ret_bool hov'.out), h.2⟩)))) | quiet_step ((go_at_call 62; exact Calls.bel_of ((DoTouch_i _ _ _ _ _ _ _).mono (fun e w' h => ⟨h.1.trans (ret_bool hov'.out), h.2⟩)))))); refine wpQuiet_nil ?_; intro wq hw0; obtain ⟨⟨_, hbq⟩, hw1⟩ := hw0; subst hw1; try dsimp only)
          go_wp2
          go_roundw
          case rel => exact ⟨k + 1, by omega, by go_num, (fun k' hk' => by
            by_cases h : k' = k
            · subst h; rw [hta.out, hov'.out, Bool.and_false]
            · exact Hall.out k' (by omega)), bl_trans Hb.out hbq⟩
          case measure => simp [intOf]; omega
        · have hov' := Lib.hid hov
          clear hov
          go_wp2
          (refine wp_region_quiet_bel (by kernel_rfl) (by kernel_rfl) ?_; (repeat (first | go_big_quiet_step ((go_at_call 62; exact Calls.bel_of ((DoTouch_i _ _ _ _ _ _ _).mono (fun e w' h => ⟨h.1.trans (ret_bool hov'.out), h.2⟩)))) | quiet_step ((go_at_call 62; exact Calls.bel_of ((DoTouch_i _ _ _ _ _ _ _).mono (fun e w' h => ⟨h.1.trans (ret_bool hov'.out), h.2⟩)))))); refine wpQuiet_nil ?_; intro wq hw0; obtain ⟨⟨_, hbq⟩, hw1⟩ := hw0; subst hw1; try dsimp only)
          go_wp2
          go_ret
          exact ⟨ret_bool (mh_no hlt (by rw [hcv.out, hcc]) (by rw [hta.out, hov'.out])).symm, bl_trans Hb.out hbq⟩
    · have hkl : k = i := by omega
      subst hkl
      go_wp2
      go_ret
      exact ⟨ret_bool (mh_iff.2 Hall.out).symm, hB⟩
def properTo (l : List Dm) (cs : List Int) (n : Nat) : Bool := (List.range n).all fun i => mh l cs i (cAt cs i)
def proper (l : List Dm) (cs : List Int) : Bool := apart l && decide (cs.length = l.length) && (cs.all fun x => inB x 0 5) && properTo l cs l.length
theorem properTo_iff {l : List Dm} {cs : List Int} {n : Nat} : properTo l cs n = true ↔ ∀ i < n, mh l cs i (cAt cs i) = true := by simp [properTo]
theorem properTo_no {l : List Dm} {cs : List Int} {n k : Nat} (hk : k < n) (h : mh l cs k (cAt cs k) = false) : properTo l cs n = false := by
  cases h' : properTo l cs n
  · rfl
  · have := properTo_iff.1 h' k hk
    rw [this] at h; cases h
set_option maxRecDepth 100000 in
set_option maxHeartbeats 4000000 in
theorem AreProper_i (A : Option Addr) (c : Nat) (l : List Dm) (B : Option Addr) (d : Nat) (cs : List Int) (w : World) (hl : l.length ≤ 1048576) (hcs : cs.length ≤ 1048576) (hr : RdD w A l) (hc : l.length ≤ c) (hs : RdI w B cs) :
    Calls Try.prog 61 #[.slice A l.length c, .slice B cs.length d] w fun e w' => e = .returned (.bool (proper l cs)) ∧ Below w.heap.size w w' := by
  have hr' := Lib.hid hr
  have hs' := Lib.hid hs
  have hB := Below.refl w.heap.size w
  clear hr hs
  cases hf : apart l
  · go_enter Try.func61, Try.ntmps61
    go_wp2_with (go_at_call 141; refine (areApart_any A c l _ hl (hr'.out.below (bl_trans hB (by go_grown))) hc).mono ?_; rintro e wn ⟨rfl, hbn⟩; have hSz := bl_sz (bl_trans hB (by go_grown)) hbn; replace hB := bl_trans (bl_trans hB (by go_grown)) hbn; clear hbn)
    go_ret
    exact ⟨ret_bool (by simp [proper, hf]), hB⟩
  · by_cases hlen : cs.length = l.length
    · cases ha : cs.all fun x => inB x 0 5
      · have hne : ((cs.length : Int) != (l.length : Int)) = false := by rw [hlen]; simp
        have hle := Nat.le_of_eq hlen
        have hge := Nat.le_of_eq hlen.symm
        have hlen' := Lib.hid hlen
        have ha' := Lib.hid ha
        clear hlen
        go_enter Try.func61, Try.ntmps61
        go_wp2_with (first | (go_at_call 141; refine (areApart_any A c l _ hl (hr'.out.below (bl_trans hB (by go_grown))) hc).mono ?_; rintro e wn ⟨rfl, hbn⟩; have hSz := bl_sz (bl_trans hB (by go_grown)) hbn; replace hB := bl_trans (bl_trans hB (by go_grown)) hbn; clear hbn) | (go_at_call 90; refine (allWithin_any B d cs _ _ _ hcs (hs'.out.below hB)).mono ?_; rintro e wn ⟨rfl, rfl⟩))
        go_ret
        exact ⟨ret_bool (by simp [proper, ha'.out]), hB⟩
      · have hne : ((cs.length : Int) != (l.length : Int)) = false := by rw [hlen]; simp
        have hle := Nat.le_of_eq hlen
        have hge := Nat.le_of_eq hlen.symm
        have hlen' := Lib.hid hlen
        have ha' := Lib.hid ha
        clear hlen
        go_enter Try.func61, Try.ntmps61
        go_wp2_with (first | (go_at_call 141; refine (areApart_any A c l _ hl (hr'.out.below (bl_trans hB (by go_grown))) hc).mono ?_; rintro e wn ⟨rfl, hbn⟩; have hSz := bl_sz (bl_trans hB (by go_grown)) hbn; replace hB := bl_trans (bl_trans hB (by go_grown)) hbn; clear hbn) | (go_at_call 90; refine (allWithin_any B d cs _ _ _ hcs (hs'.out.below hB)).mono ?_; rintro e wn ⟨rfl, rfl⟩))
        go_loopw [23] (fun q wr => ∃ k : Nat, k ≤ l.length ∧ q = .int .i64 k ∧ (∀ i < k, mh l cs i (cAt cs i) = true) ∧ Below w.heap.size w wr) (fun q _ => l.length - (intOf q).toNat)
        case atStart => exact ⟨0, by omega, rfl, (by intro k' h; omega), hB⟩
        case round =>
          obtain ⟨k, hk, rfl, hall, hB'⟩ := hrel
          clear hB
          have hB := hB'
          clear hB'
          have Hall := Lib.hid hall
          clear hall
          by_cases hlt : k < l.length
          · obtain ⟨b3, off3, v, rfl, hbl3, hv, hd3, _, v0⟩ := (hs'.out.below hB).at_ (k := k) (by omega)
            have hcv := Lib.hid (cAt_eq hv)
            clear hv hd3
            cases hm : mh l cs k v
            · go_wp2_with (go_at_call 140; refine (mayHave_any A c l _ d cs k v _ hl hcs (hr'.out.below (bl_trans hB (by go_grown))) hc (hs'.out.below (bl_trans hB (by go_grown))) hlt (by omega)).mono ?_; rintro e wn ⟨rfl, hbn⟩; have hSz := bl_sz (bl_trans hB (by go_grown)) hbn; replace hB := bl_trans (bl_trans hB (by go_grown)) hbn; clear hbn)
              go_ret
              exact ⟨ret_bool (by have := properTo_no (l := l) (cs := cs) hlt (by rw [hcv.out]; exact hm); simp [proper, this]), hB⟩
            · go_wp2_with (go_at_call 140; refine (mayHave_any A c l _ d cs k v _ hl hcs (hr'.out.below (bl_trans hB (by go_grown))) hc (hs'.out.below (bl_trans hB (by go_grown))) hlt (by omega)).mono ?_; rintro e wn ⟨rfl, hbn⟩; have hSz := bl_sz (bl_trans hB (by go_grown)) hbn; replace hB := bl_trans (bl_trans hB (by go_grown)) hbn; clear hbn)
              go_roundw
              case rel => exact ⟨k + 1, by omega, by go_num, (fun k' hk' => by
                by_cases h : k' = k
                · subst h; rw [hcv.out]; exact hm
                · exact Hall.out k' (by omega)), hB⟩
              case measure => simp [intOf]; omega
          · have hkl : k = l.length := by omega
            subst hkl
            go_wp2
            go_ret
            exact ⟨ret_bool (by simp [proper, hf, hlen'.out, ha'.out, properTo_iff.2 Hall.out]), hB⟩
    · have hne : ((cs.length : Int) != (l.length : Int)) = true := by simp; omega
      go_enter Try.func61, Try.ntmps61
      go_wp2_with (first | (go_at_call 141; refine (areApart_any A c l _ hl (hr'.out.below (bl_trans hB (by go_grown))) hc).mono ?_; rintro e wn ⟨rfl, hbn⟩; have hSz := bl_sz (bl_trans hB (by go_grown)) hbn; replace hB := bl_trans (bl_trans hB (by go_grown)) hbn; clear hbn) | (go_at_call 90; refine (allWithin_any B d cs _ _ _ hcs (hs'.out.below hB)).mono ?_; rintro e wn ⟨rfl, rfl⟩))
      go_ret
      exact ⟨ret_bool (by simp [proper, hlen]), hB⟩
theorem mh_congr {l : List Dm} {cs cs' : List Int} {i : Nat} {c : Int} (h : ∀ k < i, cAt cs k = cAt cs' k) : mh l cs i c = mh l cs' i c := by
  rw [Bool.eq_iff_iff, mh_iff, mh_iff]
  constructor
  · intro h1 k hk; rw [← h k hk]; exact h1 k hk
  · intro h1 k hk; rw [h k hk]; exact h1 k hk
def findC (l : List Dm) (cs : List Int) (i : Nat) : Nat → Nat → Nat
  | 0, c => c
  | f + 1, c => if mh l cs i c then c else findC l cs i f (c + 1)
def greedyTo (l : List Dm) : Nat → List Int
  | 0 => []
  | k + 1 => greedyTo l k ++ [(findC l (greedyTo l k) k (k + 1) 0 : Int)]
def greedy (l : List Dm) : List Int := if few l then greedyTo l l.length else []
theorem greedyTo_len (l : List Dm) (k : Nat) : (greedyTo l k).length = k := by
  induction k with
  | zero => rfl
  | succ k ih => simp [greedyTo, ih]
theorem findC_le (l : List Dm) (cs : List Int) (i c' : Nat) (h : mh l cs i c' = true) : ∀ (f c : Nat), c ≤ c' → c' < c + f → findC l cs i f c ≤ c' := by
  intro f
  induction f with
  | zero => intro c h1 h2; omega
  | succ f ih =>
    intro c h1 h2
    rw [findC]
    split
    · omega
    · rename_i hm
      by_cases he : c = c'
      · subst he; exact absurd h hm
      · exact ih (c + 1) (by omega) (by omega)
theorem greedyTo_rng (l : List Dm) (k : Nat) : ∀ j < k, 0 ≤ cAt (greedyTo l k) j ∧ cAt (greedyTo l k) j ≤ j := by
  induction k with
  | zero => intro j hj; omega
  | succ k ih =>
    intro j hj
    by_cases h : j = k
    · subst h
      have e : cAt (greedyTo l (j + 1)) j = (findC l (greedyTo l j) j (j + 1) 0 : Int) := by
        simp [cAt, greedyTo, greedyTo_len]
      have hm : mh l (greedyTo l j) j j = true := mh_iff.2 fun q hq => by
        have := ih q hq
        have : (cAt (greedyTo l j) q == (j : Int)) = false := by simp; omega
        rw [this]; rfl
      have := findC_le l (greedyTo l j) j j hm (j + 1) 0 (by omega) (by omega)
      rw [e]; omega
    · have e : cAt (greedyTo l (k + 1)) j = cAt (greedyTo l k) j := by
        unfold cAt
        rw [greedyTo, List.getElem?_append_left (by rw [greedyTo_len]; omega)]
      rw [e]; exact ih j (by omega)
theorem greedyTo_mem (l : List Dm) (k : Nat) : ∀ x ∈ greedyTo l k, 0 ≤ x ∧ x ≤ k := by
  intro x hx
  obtain ⟨j, hj, rfl⟩ := List.mem_iff_getElem.1 hx
  rw [greedyTo_len] at hj
  have := greedyTo_rng l k j hj
  rw [cAt_eq (List.getElem?_eq_getElem (by rw [greedyTo_len]; exact hj))] at this
  omega
theorem greedy_lt {l : List Dm} {i c : Nat} (h : mh l (greedyTo l i) i c = false) : c < i := by
  rcases Nat.lt_or_ge c i with h1 | h1
  · exact h1
  · have : mh l (greedyTo l i) i c = true := mh_iff.2 fun q hq => by
      have := greedyTo_rng l i q hq
      have : (cAt (greedyTo l i) q == (c : Int)) = false := by simp; omega
      rw [this]; rfl
    rw [this] at h; cases h
theorem findC_go {l : List Dm} {cs : List Int} {i c : Nat} (hc : c < i) (h : mh l cs i c = false) : findC l cs i (i + 1 - c) c = findC l cs i (i + 1 - (c + 1)) (c + 1) := by
  rw [show i + 1 - c = (i - c) + 1 by omega, findC, h, if_neg (by decide), show i + 1 - (c + 1) = i - c by omega]
theorem findC_end {l : List Dm} {cs : List Int} {i c : Nat} (hc : c ≤ i) (h : mh l cs i c = true) : findC l cs i (i + 1 - c) c = c := by
  rw [show i + 1 - c = (i - c) + 1 by omega, findC, h, if_pos rfl]
theorem greedy_len (l : List Dm) : (greedy l).length ≤ 18 := by
  unfold greedy
  split
  · rename_i h
    rw [greedyTo_len]
    simp only [few, Bool.and_eq_true, decide_eq_true_eq] at h
    exact h.2
  · simp
def gOut (l : List Dm) (i c : Nat) : List Int := greedyTo l i ++ (c : Int) :: List.replicate (l.length - i - 1) 0
theorem gOut_len {l : List Dm} {i c : Nat} (hi : i < l.length) : (gOut l i c).length = l.length := by simp [gOut, greedyTo_len]; omega
theorem gOut_mh {l : List Dm} {i c : Nat} (x : Int) : mh l (gOut l i c) i x = mh l (greedyTo l i) i x := mh_congr fun k hk => by
  unfold cAt gOut
  rw [List.getElem?_append_left (by rw [greedyTo_len]; omega)]
theorem gOut_at {l : List Dm} {i c : Nat} : (gOut l i c)[i]? = some (c : Int) := by
  unfold gOut
  rw [List.getElem?_append_right (by rw [greedyTo_len]; omega), greedyTo_len, Nat.sub_self]; rfl
theorem gOut_set {l : List Dm} {i c : Nat} : (gOut l i c).set i ((c : Int) + 1) = gOut l i (c + 1) := by
  unfold gOut
  rw [List.set_append_right _ _ (by rw [greedyTo_len]; omega), greedyTo_len, Nat.sub_self, List.set_cons_zero]; rfl
theorem gOut_mem {l : List Dm} {i c : Nat} (hi : i ≤ 18) (hc : c ≤ 18) : ∀ x ∈ gOut l i c, I64 x := by
  intro x hx
  rcases List.mem_append.1 hx with h | h
  · have := greedyTo_mem l i x h; exact ⟨by omega, by omega⟩
  · rcases List.mem_cons.1 h with rfl | h
    · exact ⟨by omega, by omega⟩
    · have := List.eq_of_mem_replicate h; subst this; exact ⟨by omega, by omega⟩
theorem mayHave_n (A : Option Addr) (c : Nat) (l : List Dm) (B : Option Addr) (d n : Nat) (cs : List Int) (i : Nat) (col : Int) (w : World) (hn : cs.length = n) (hl : l.length ≤ 1048576) (hcs : cs.length ≤ 1048576) (hr : RdD w A l) (hc : l.length ≤ c) (hs : RdI w B cs) (hi : i < l.length) (hics : i ≤ cs.length) :
    Calls Try.prog 140 #[.slice A l.length c, .slice B n d, .int .i64 i, .int .i64 col] w fun e w' => e = .returned (.bool (mh l cs i col)) ∧ Below w.heap.size w w' := by
  subst hn
  exact mayHave_any A c l B d cs i col w hl hcs hr hc hs hi hics
set_option maxRecDepth 100000 in
set_option maxHeartbeats 4000000 in
theorem GreedyColors_i (A : Option Addr) (c : Nat) (l : List Dm) (w : World) (hl : l.length ≤ 1048576) (hr : RdD w A l) (hc : l.length ≤ c) :
    Calls Try.prog 58 #[.slice A l.length c] w fun e w' => ∃ v, e = .returned v ∧ OwI w.heap.size w' v (greedy l) ∧ Below w.heap.size w w' := by
  have hr' := Lib.hid hr
  have hB := Below.refl w.heap.size w
  clear hr
  cases hf : few l
  · go_enter Try.func58, Try.ntmps58
    go_wp2_with (go_at_call 139; refine (areFew_any A c l _ hl (hr'.out.below (bl_trans hB (by go_grown)))).mono ?_; rintro e wn ⟨rfl, hbn⟩; have hSz := bl_sz (bl_trans hB (by go_grown)) hbn; replace hB := bl_trans (bl_trans hB (by go_grown)) hbn; clear hbn)
    go_ret
    exact ⟨_, rfl, by rw [greedy, hf]; exact OwI.nil_ _ _, hB⟩
  · have h18 : l.length ≤ 18 := by simp only [few, Bool.and_eq_true, decide_eq_true_eq] at hf; exact hf.2
    have hmk := run_make_row' (P := Try.prog) 24 3 (.int .i64 0) 8 Try.underlying24 info_int rfl .i64 .i64 l.length (by omega) (by omega)
    go_enter Try.func58, Try.ntmps58
    go_wp2_with (go_at_call 139; refine (areFew_any A c l _ hl (hr'.out.below (bl_trans hB (by go_grown)))).mono ?_; rintro e wx ⟨rfl, hbn⟩; have hSz := bl_sz (bl_trans hB (by go_grown)) hbn; replace hB := bl_trans (bl_trans hB (by go_grown)) hbn; clear hbn)
    rw [made_list]
    have N := Blk.new wx 3 (List.replicate l.length (.int .i64 0))
    have hxw := hB.size
    replace hB := bl_alloc hB (.cells (List.replicate l.length (.int .i64 0)).toArray 3)
    go_loopw [13] (fun q wr => ∃ i : Nat, i ≤ l.length ∧ q = .int .i64 i ∧ Blk wr wx.heap.size 3 ((greedyTo l i ++ List.replicate (l.length - i) 0).map cI) ∧ Below w.heap.size w wr) (fun q _ => l.length - (intOf q).toNat)
    case atStart => exact ⟨0, by omega, rfl, by simpa [greedyTo, cI] using N, hB⟩
    case round =>
      obtain ⟨i, hi, rfl, N', hB'⟩ := hrel
      clear N hB hmk
      have hB := hB'
      clear hB'
      by_cases hlt : i < l.length
      · have N0 : Blk wr wx.heap.size 3 ((gOut l i 0).map cI) := by
          have e : l.length - i = (l.length - i - 1) + 1 := by omega
          rw [e, List.replicate_succ] at N'
          exact N'
        clear N'
        go_wp2
        go_loopw [] (fun wr => ∃ c' : Nat, c' ≤ i ∧ Blk wr wx.heap.size 3 ((gOut l i c').map cI) ∧ findC l (greedyTo l i) i (i + 1) 0 = findC l (greedyTo l i) i (i + 1 - c') c' ∧ Below w.heap.size w wr) (fun wr => match wr.cell? ⟨wx.heap.size, i, none⟩ with | some (.int _ v) => i + 1 - v.toNat | _ => 0)
        case atStart => exact ⟨0, by omega, N0, rfl, hB⟩
        case round =>
          obtain ⟨c', hc', N, hfc, hB'⟩ := hrel
          clear hB N0
          have hB := hB'
          clear hB'
          have hO := gOut_len (c := c') hlt
          have hv := N.getI (gOut_at (l := l) (i := i) (c := c'))
          have hRI := Lib.hid (N.rdI (gOut_mem (by omega) (by omega)))
          have hfc' := Lib.hid hfc
          clear hfc
          cases hm : mh l (gOut l i c') i c'
          · have hlt2 := greedy_lt (by rw [← gOut_mh]; exact hm)
            have hm' := Lib.hid hm
            go_wp2_with (go_at_call 140; refine (mayHave_n A c l _ _ l.length (gOut l i c') i c' _ hO hl (by omega) (hr'.out.below (bl_trans hB (by go_grown))) hc (hRI.out.below (by go_grown)) hlt (by omega)).mono ?_; rintro e wn ⟨rfl, hbn⟩; have hSz := bl_sz (bl_trans hB (by go_grown)) hbn; replace hB := bl_trans (bl_trans hB (by go_grown)) hbn; replace N := N.bel hbn; have hv2 := N.getI (gOut_at (l := l) (i := i) (c := c')); have hfz := N.frozen i; have N3 := Lib.hid (N.setI i ((c' : Int) + 1)); have hB3 := Lib.hid (bl_set hB (p := ⟨wx.heap.size, i, none⟩) hxw (.int .i64 ((c' : Int) + 1))); clear hbn)
            go_roundw
            case rel =>
              refine ⟨c' + 1, by omega, ?_, ?_, hB3.out⟩
              · have := N3.out; rw [gOut_set] at this; exact this
              · rw [hfc'.out]; exact findC_go hlt2 (by rw [← gOut_mh (c := c')]; exact hm)
            case measure =>
              have h1 := N3.out.getI (r := i) (v := (c' : Int) + 1) (by rw [gOut_set]; exact gOut_at)
              simp only [h1, hv]; omega
          · have hm' := Lib.hid hm
            go_wp2_with (go_at_call 140; refine (mayHave_n A c l _ _ l.length (gOut l i c') i c' _ hO hl (by omega) (hr'.out.below (bl_trans hB (by go_grown))) hc (hRI.out.below (by go_grown)) hlt (by omega)).mono ?_; rintro e wn ⟨rfl, hbn⟩; have hSz := bl_sz (bl_trans hB (by go_grown)) hbn; replace hB := bl_trans (bl_trans hB (by go_grown)) hbn; replace N := N.bel hbn; clear hbn)
            go_roundw
            case rel =>
              refine ⟨i + 1, by omega, by go_num, ?_, hB⟩
              have e : greedyTo l (i + 1) ++ List.replicate (l.length - (i + 1)) 0 = gOut l i c' := by
                rw [greedyTo, hfc'.out, findC_end hc' (by rw [← gOut_mh (c := c')]; exact hm), gOut, List.append_assoc, show l.length - (i + 1) = l.length - i - 1 by omega]; rfl
              rw [e]; exact N
            case measure => simp [intOf]; omega
      · have hkl : i = l.length := by omega
        subst hkl
        rw [Nat.sub_self, List.replicate_zero, List.append_nil] at N'
        have H := Lib.hid N'
        clear N'
        have hgm := greedyTo_mem l l.length
        have hgl := greedyTo_len l l.length
        go_wp2
        go_ret
        refine ⟨.slice (some ⟨wx.heap.size, 0, none⟩) l.length l.length, rfl, ?_, hB⟩
        rw [greedy, hf, if_pos rfl]
        exact ⟨⟨_, _, by rw [hgl]⟩, by rw [hgl]; exact H.out.own hxw (by simp [hgl]) (by simp only [maxLen]; omega), fun x hx => by have := hgm x hx; exact ⟨by omega, by omega⟩⟩
end Go.Proofs.Ytdcjhfmkkcakhaa

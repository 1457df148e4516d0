/-
  Contracts of DominoAt of impl and FindLaying of both packages; nothing that was there is written; at most 1048576 dominoes.
-/
import Derived.Test.YtdcjhfmkkcakhaaTil
import Derived.Test.YtdcjhfmkkcakhaaColors
import Derived.Deep.LoopGhost
namespace Go.Proofs.Ytdcjhfmkkcakhaa
open Go.ChangeShapes Go.WideShapes Go.ChangeAt Go.RowKit Go.Deep
set_option linter.unusedVariables false

theorem nodup_subD : ∀ {a b : List Dm}, a.Nodup → (∀ x ∈ a, x ∈ b) → a.length ≤ b.length := by
  intro a
  induction a with
  | nil => intro b _ _; simp
  | cons x a ih =>
    intro b hd hs
    rw [List.nodup_cons] at hd
    have hx := hs x (by simp)
    have h1 := ih (b := b.erase x) hd.2 (fun y hy => by
      have : y ≠ x := fun e => hd.1 (e ▸ hy)
      exact (List.mem_erase_of_ne this).2 (hs y (by simp [hy])))
    rw [List.length_erase_of_mem hx] at h1
    have : 0 < b.length := List.length_pos_of_mem hx
    rw [List.length_cons]; omega
def tch (d e : Dm) : Bool := touch d.1 d.2.1 d.2.2 e.1 e.2.1 e.2.2
theorem tch_comm (d e : Dm) : tch d e = tch e d := touch_comm ..
def canD (out : List Dm) (d : Dm) : Bool := !decide (d ∈ out) && out.any (tch d)
def canAt (list out : List Dm) (j : Nat) : Bool := match list[j]? with
  | some d => canD out d
  | none => false
theorem canAt_at {list out : List Dm} {j : Nat} {d : Dm} (h : list[j]? = some d) : canAt list out j = canD out d := by unfold canAt; rw [h]
def nextAt (list out : List Dm) : Nat → Nat → Option Nat
  | 0, _ => none
  | f + 1, j => if canAt list out j then some j else nextAt list out f (j + 1)
def nextD (list out : List Dm) : Option Nat := nextAt list out list.length 0
theorem nextAt_none {list out : List Dm} : ∀ (f j : Nat), (∀ i, j ≤ i → i < j + f → canAt list out i = false) → nextAt list out f j = none := by
  intro f
  induction f with
  | zero => intro j _; rfl
  | succ f ih =>
    intro j h
    rw [nextAt, h j (Nat.le_refl _) (by omega), if_neg (by decide)]
    exact ih (j + 1) fun i h1 h2 => h i (by omega) (by omega)
theorem nextAt_some {list out : List Dm} {k : Nat} (hk : canAt list out k = true) : ∀ (f j : Nat), j ≤ k → k < j + f → (∀ i, j ≤ i → i < k → canAt list out i = false) → nextAt list out f j = some k := by
  intro f
  induction f with
  | zero => intro j h1 h2; omega
  | succ f ih =>
    intro j h1 h2 h
    rw [nextAt]
    rcases Nat.lt_or_ge j k with h3 | h3
    · rw [h j (Nat.le_refl _) h3, if_neg (by decide)]
      exact ih (j + 1) h3 (by omega) fun i h4 h5 => h i (by omega) h5
    · have : j = k := by omega
      rw [this, hk, if_pos rfl]
theorem nextD_none {list out : List Dm} (h : ∀ i < list.length, canAt list out i = false) : nextD list out = none := nextAt_none _ _ fun i _ h2 => h i (by omega)
theorem nextD_some {list out : List Dm} {k : Nat} (hk : canAt list out k = true) (hlt : k < list.length) (h : ∀ i < k, canAt list out i = false) : nextD list out = some k := nextAt_some hk _ _ (Nat.zero_le _) (by omega) fun i _ h2 => h i h2
def layL (list : List Dm) : Nat → List Dm → List Dm
  | 0, out => out
  | f + 1, out => match nextD list out with
    | none => out
    | some k => match list[k]? with
      | none => out
      | some d => layL list f (d :: out)
theorem layL_end {list out : List Dm} (f : Nat) (h : ∀ i < list.length, canAt list out i = false) : layL list f out = out := by
  cases f with
  | zero => rfl
  | succ f => rw [layL, nextD_none h]
theorem layL_step {list out : List Dm} {f k : Nat} {d : Dm} (hd : list[k]? = some d) (hk : canD out d = true) (h : ∀ i < k, canAt list out i = false) : layL list (f + 1) out = layL list f (d :: out) := by
  obtain ⟨hlt, _⟩ := List.getElem?_eq_some_iff.1 hd
  rw [layL, nextD_some (by rw [canAt_at hd]; exact hk) hlt h]
  simp only [hd]
structure GoodD (list out : List Dm) : Prop where
  nd : out.Nodup
  sub : ∀ d ∈ out, d ∈ list
theorem GoodD.len {list out : List Dm} (h : GoodD list out) : out.length ≤ list.length := nodup_subD h.nd h.sub
theorem GoodD.cons {list out : List Dm} (h : GoodD list out) {k : Nat} {d : Dm} (hd : list[k]? = some d) (hk : canD out d = true) : GoodD list (d :: out) := by
  unfold canD at hk
  rw [Bool.and_eq_true, Bool.not_eq_true', decide_eq_false_iff_not] at hk
  refine ⟨List.nodup_cons.2 ⟨hk.1, h.nd⟩, fun e he => ?_⟩
  rcases List.mem_cons.1 he with rfl | he
  · exact List.mem_of_getElem? hd
  · exact h.sub e he
theorem GoodD.full {list out : List Dm} (h : GoodD list out) (hl : out.length = list.length) : ∀ i < list.length, canAt list out i = false := by
  intro i hi
  have hv : list[i]? = some list[i] := List.getElem?_eq_getElem hi
  rw [canAt_at hv]
  unfold canD
  have : list[i] ∈ out := by
    refine Decidable.byContradiction fun hn => ?_
    have := nodup_subD (a := list[i] :: out) (b := list) (List.nodup_cons.2 ⟨hn, h.nd⟩) (fun e he => by
      rcases List.mem_cons.1 he with rfl | he
      · exact List.getElem_mem hi
      · exact h.sub e he)
    rw [List.length_cons] at this
    omega
  rw [decide_eq_true this]; rfl
def doorD (list : List Dm) (c : Cl) : Dm := dAt list (domAt list c 0).toNat
def findLay (rs : List Int) (c : Cl) (list : List Dm) : Option (List Dm) :=
  if isTiling rs list && (regOk rs && cellOk c.1 c.2 && regHas rs c.1 c.2) then
    if (layL list list.length [doorD list c]).length = list.length then some (layL list list.length [doorD list c]) else none
  else none
theorem findLay_len (rs : List Int) (c : Cl) (list : List Dm) : ((findLay rs c list).getD []).length ≤ list.length := by
  unfold findLay
  split
  · split
    · rename_i h; rw [Option.getD_some, h]; exact Nat.le_refl _
    · simp
  · simp
theorem domAt_found : ∀ (l : List Dm) (c : Cl) (k : Int), 0 ≤ k → 0 ≤ domAt l c k → ∃ j : Nat, domAt l c k = k + j ∧ j < l.length := by
  intro l
  induction l with
  | nil => intro c k _ h; simp [domAt] at h
  | cons d l ih =>
    intro c k hk h
    rw [domAt] at h ⊢
    split
    · exact ⟨0, by simp, by simp⟩
    · rename_i hn
      rw [if_neg hn] at h
      obtain ⟨j, h1, h2⟩ := ih c (k + 1) (by omega) h
      exact ⟨j + 1, by rw [h1]; push_cast; omega, by simp; omega⟩
theorem door_at {rs : List Int} {list : List Dm} {x y : Int} (h1 : isTiling rs list = true) (h2 : (regOk rs && cellOk x y && regHas rs x y) = true) : ∃ k : Nat, domAt list (x, y) 0 = (k : Int) ∧ list[k]? = some (doorD list (x, y)) := by
  obtain ⟨⟨hreg, hok⟩, _⟩ : (regOk rs = true ∧ cellOk x y = true) ∧ regHas rs x y = true := by simpa using h2
  have hb : (regSet rs).testBit (idxN (x, y)) = true := by rw [← HasCell_bit hreg hok]; exact h2
  rw [isTiling_cov, Bool.and_eq_true, beq_iff_eq] at h1
  rw [← h1.2] at hb
  have hn := domAt_neg (c := (x, y)) hok list 0 (Int.le_refl _)
  have hge : 0 ≤ domAt list (x, y) 0 := by
    rcases Int.lt_or_le (domAt list (x, y) 0) 0 with h | h
    · rw [hn.1 h] at hb; cases hb
    · exact h
  obtain ⟨j, h3, h4⟩ := domAt_found list (x, y) 0 (Int.le_refl _) hge
  refine ⟨j, by rw [h3]; simp, ?_⟩
  unfold doorD dAt
  rw [h3]
  simp [List.getElem?_eq_getElem h4]
theorem any_take_next {out : List Dm} {i : Nat} {e : Dm} (h : out[i]? = some e) (p : Dm → Bool) : (out.take (i + 1)).any p = ((out.take i).any p || p e) := by
  rw [take_snoc_at h, List.any_append]; simp
theorem hasDomino_N (A : Option Addr) (N c : Nat) (l : List Dm) (x y : Int) (z : Bool) (w : World) (hN : N = l.length) (hl : N ≤ 1048576) (hr : RdD w A l) (b : Bool) (hb : decide ((x, y, z) ∈ l) = b) :
    Calls Try.prog 116 #[.slice A N c, .agg #[.int .i64 x, .int .i64 y, .bool z]] w fun e w' => e = .returned (.bool b) ∧ Below w.heap.size w w' := by
  subst hN; subst hb; exact hasDomino_any A c l x y z w hl hr
theorem l11Has_N (A : Option Addr) (N c : Nat) (l : List Dm) (x y : Int) (z : Bool) (w : World) (hN : N = l.length) (hl : N ≤ 1048576) (hr : RdD w A l) :
    Calls Try.prog 111 #[.slice A N c, .agg #[.int .i64 x, .int .i64 y, .bool z]] w fun e w' => e = .returned (.int .i64 (findD l (x, y, z) 0)) ∧ Below w.heap.size w w' := by
  subst hN; exact l11Has_any A c l x y z w hl hr
set_option maxRecDepth 100000 in
set_option maxHeartbeats 1000000 in
theorem DominoAt_i (A : Option Addr) (N c : Nat) (l : List Dm) (cx cy : Int) (w : World) (hN : N = l.length) (hl : N ≤ 1048576) (hr : RdD w A l) (hok : cellOk cx cy = true) :
    Calls Try.prog 165 #[.slice A N c, .agg #[.int .i64 cx, .int .i64 cy]] w fun e w' => e = .returned (.int .i64 (domAt l (cx, cy) 0)) ∧ Below w.heap.size w w' := by
  have HN := Lib.hid hN
  have hr' := Lib.hid hr
  have P0 := Blk.new w 35 [.int .i64 cx, .int .i64 cy]
  clear hN hr
  go_enter Try.func165, Try.ntmps165
  go_wp2_with fail
  go_loopw [9] (fun q wr => ∃ k : Nat, k ≤ N ∧ q = .int .i64 k ∧ Hid (domAt l (cx, cy) 0 = domAt (l.drop k) (cx, cy) k) ∧ Hid (Blk wr w.heap.size 35 [.int .i64 cx, .int .i64 cy]) ∧ Below w.heap.size w wr) (fun q _ => N - (intOf q).toNat)
  case atStart => exact ⟨0, by omega, rfl, Lib.hid rfl, Lib.hid P0, by go_grown⟩
  case round =>
    obtain ⟨k, hk, rfl, H, HP, hB⟩ := hrel
    clear P0
    by_cases hlt : k < N
    · obtain ⟨b, off, x, y, z, rfl, hbl, hv, hd, _, _, c0, c1, c2⟩ := (hr'.out.below hB).at_ (k := k) (by have := HN.out; omega)
      have hs : domAt l (cx, cy) 0 = if overD (x, y, z) (cx, cy) then (k : Int) else domAt (l.drop (k + 1)) (cx, cy) (k + 1) := by rw [H.out, hd, domAt]
      rw [over_bit (c := (cx, cy)) hok] at hs
      have Hs := Lib.hid hs
      have P := HP.out.alloc (.cells #[.int .i64 x, .int .i64 y, .bool z] 53)
      have D := Blk.new wr 53 [.int .i64 x, .int .i64 y, .bool z]
      have p0 := bq_cell P.c2.1
      have p1 := bq_cell P.c2.2
      have r0 := bq_cell D.c3.1
      have r1 := bq_cell D.c3.2.1
      have r2 := bq_cell D.c3.2.2
      have hX := bl_alloc hB (.cells #[.int .i64 x, .int .i64 y, .bool z] 53)
      clear hv hd hs D
      cases c3 : domOk x y z
      · have OK := Lib.hid c3
        have H2 := Lib.hid (show domAt l (cx, cy) 0 = domAt (l.drop (k + 1)) (cx, cy) (k + 1) by
          rw [Hs.out, if_neg (by unfold okD; dsimp only; rw [c3]; simp)])
        clear c3
        go_wp2_with fail
        (refine wp_region_quiet_bel (by kernel_rfl) (by kernel_rfl) ?_; (repeat (first | go_big_quiet_step ((go_at_call 143; exact Calls.bel_of ((DominoOk_i x y z _).mono (fun e w' h => ⟨h.1.trans (ret_bool OK.out), h.2⟩)))) | quiet_step ((go_at_call 143; exact Calls.bel_of ((DominoOk_i x y z _).mono (fun e w' h => ⟨h.1.trans (ret_bool OK.out), h.2⟩)))))); refine wpQuiet_nil ?_; intro wq hw0; obtain ⟨⟨_, hbq⟩, hw1⟩ := hw0; subst hw1; try dsimp only)
        go_wp2_with fail
        go_roundw
        case rel => exact ⟨k + 1, by omega, by go_num, H2, Lib.hid (P.bel hbq), bl_trans hX hbq⟩
        case measure => simp [intOf]; omega
      · have OK := Lib.hid c3
        obtain ⟨o, ho⟩ : ∃ o, o = ownD (x, y, z) := ⟨_, rfl⟩
        have hol : o < 18446744073709551616 := ho ▸ ownD_lt c3
        have HO := Lib.hid ho
        cases c4 : o.testBit (idxN (cx, cy))
        · have C4 := Lib.hid (show hasBit o cx cy = false by unfold hasBit; rw [hok, Bool.true_and]; exact c4)
          have H2 := Lib.hid (show domAt l (cx, cy) 0 = domAt (l.drop (k + 1)) (cx, cy) (k + 1) by
            rw [Hs.out, ← ho, c4]; simp)
          clear c3 c4 ho
          go_wp2_with fail
          (refine wp_region_quiet_bel (by kernel_rfl) (by kernel_rfl) ?_; (repeat (first | go_big_quiet_step (first | (go_at_call 143; exact Calls.bel_of ((DominoOk_i x y z _).mono (fun e w' h => ⟨h.1.trans (ret_bool OK.out), h.2⟩))) | (go_at_call 190; exact Calls.bel_of (dset_d _ _ _ o _ OK.out HO.out.symm)) | (go_at_call 126; exact Calls.bel_of ((has_any o cx cy _ hol).mono (fun e w' h => ⟨h.1.trans (ret_bool C4.out), h.2⟩)))) | quiet_step (first | (go_at_call 143; exact Calls.bel_of ((DominoOk_i x y z _).mono (fun e w' h => ⟨h.1.trans (ret_bool OK.out), h.2⟩))) | (go_at_call 190; exact Calls.bel_of (dset_d _ _ _ o _ OK.out HO.out.symm)) | (go_at_call 126; exact Calls.bel_of ((has_any o cx cy _ hol).mono (fun e w' h => ⟨h.1.trans (ret_bool C4.out), h.2⟩)))))); refine wpQuiet_nil ?_; intro wq hw0; obtain ⟨⟨_, hbq⟩, hw1⟩ := hw0; subst hw1; try dsimp only)
          go_wp2_with fail
          go_roundw
          case rel => exact ⟨k + 1, by omega, by go_num, H2, Lib.hid (P.bel hbq), bl_trans hX hbq⟩
          case measure => simp [intOf]; omega
        · have C4 := Lib.hid (show hasBit o cx cy = true by unfold hasBit; rw [hok, Bool.true_and]; exact c4)
          have H2 := Lib.hid (show domAt l (cx, cy) 0 = (k : Int) by
            rw [Hs.out, ← ho, c4]; unfold okD; dsimp only; rw [c3]; rfl)
          clear c3 c4 ho
          go_wp2_with fail
          (refine wp_region_quiet_bel (by kernel_rfl) (by kernel_rfl) ?_; (repeat (first | go_big_quiet_step (first | (go_at_call 143; exact Calls.bel_of ((DominoOk_i x y z _).mono (fun e w' h => ⟨h.1.trans (ret_bool OK.out), h.2⟩))) | (go_at_call 190; exact Calls.bel_of (dset_d _ _ _ o _ OK.out HO.out.symm)) | (go_at_call 126; exact Calls.bel_of ((has_any o cx cy _ hol).mono (fun e w' h => ⟨h.1.trans (ret_bool C4.out), h.2⟩)))) | quiet_step (first | (go_at_call 143; exact Calls.bel_of ((DominoOk_i x y z _).mono (fun e w' h => ⟨h.1.trans (ret_bool OK.out), h.2⟩))) | (go_at_call 190; exact Calls.bel_of (dset_d _ _ _ o _ OK.out HO.out.symm)) | (go_at_call 126; exact Calls.bel_of ((has_any o cx cy _ hol).mono (fun e w' h => ⟨h.1.trans (ret_bool C4.out), h.2⟩)))))); refine wpQuiet_nil ?_; intro wq hw0; obtain ⟨⟨_, hbq⟩, hw1⟩ := hw0; subst hw1; try dsimp only)
          go_wp2_with fail
          go_ret
          exact ⟨ret_int (by rw [H2.out]), bl_trans hX hbq⟩
    · have H2 := Lib.hid (show domAt l (cx, cy) 0 = -1 by rw [H.out, List.drop_eq_nil_of_le (by have := HN.out; omega)]; rfl)
      go_wp2_with fail
      go_ret
      exact ⟨ret_int (by rw [H2.out]), hB⟩
set_option maxRecDepth 100000 in
set_option maxHeartbeats 4000000 in
theorem FindLaying_i (A : Option Addr) (c : Nat) (rs : List Int) (x y : Int) (B : Option Addr) (N d : Nat) (list : List Dm) (w : World) (hl : rs.length ≤ 1048576) (hN : N = list.length) (hl2 : N ≤ 1048576) (hr : RdI w A rs) (hs : RdD w B list) :
    Calls Try.prog 79 #[.agg #[.slice A rs.length c], .agg #[.int .i64 x, .int .i64 y], .slice B N d] w fun e w' => ∃ v, e = .returned (.tuple #[v, .bool (findLay rs (x, y) list).isSome]) ∧ OwD w.heap.size w' v ((findLay rs (x, y) list).getD []) ∧ Below w.heap.size w w' := by
  have hr' := Lib.hid hr
  have hs' := Lib.hid hs
  have HN := Lib.hid hN
  (have hB := Below.refl w.heap.size w; have P := (Blk.new w 31 [.slice A rs.length c]).alloc (.cells #[.int .i64 x, .int .i64 y] 35); have Pc := P.c1; have Q := Blk.new2 w (.cells #[.slice A rs.length c] 31) 35 [.int .i64 x, .int .i64 y]; have Qc := Q.c2)
  have hl3 : N ≤ 1048576 := by omega
  obtain ⟨F, hF⟩ : ∃ F, F = findLay rs (x, y) list := ⟨_, rfl⟩
  rw [← hF]
  clear hr hs
  cases c1 : isTiling rs list
  · have C1 := Lib.hid c1
    obtain rfl : F = none := by rw [hF]; unfold findLay; rw [c1]; rfl
    clear c1 hF hN
    go_enter Try.func79, Try.ntmps79
    go_wp2_with (go_at_call 164; refine (IsTiling_i A c rs B N d list _ hl HN.out hl3 (hr'.out.below (bl_trans hB (by go_grown))) (hs'.out.below (bl_trans hB (by go_grown)))).mono ?_; rintro e wn ⟨rfl, hbn⟩; have hSz := bl_sz (bl_trans hB (by go_grown)) hbn; replace hB := bl_trans (bl_trans hB (by go_grown)) hbn; replace P := P.bel (bl_trans (by go_grown) hbn); replace Pc := P.c1; replace Q := Q.bel (bl_trans (by go_grown) hbn); replace Qc := Q.c2; rw [C1.out]; clear hbn)
    go_ret2
    exact ⟨_, rfl, OwD.nil_ _ _, hB⟩
  · cases c2 : (regOk rs && cellOk x y && regHas rs x y)
    · have C1 := Lib.hid c1
      have C2 := Lib.hid c2
      obtain rfl : F = none := by rw [hF]; unfold findLay; dsimp only; rw [c1, c2]; rfl
      clear c1 c2 hF hN
      go_enter Try.func79, Try.ntmps79
      go_wp2_with (first | (go_at_call 164; refine (IsTiling_i A c rs B N d list _ hl HN.out hl3 (hr'.out.below (bl_trans hB (by go_grown))) (hs'.out.below (bl_trans hB (by go_grown)))).mono ?_; rintro e wn ⟨rfl, hbn⟩; have hSz := bl_sz (bl_trans hB (by go_grown)) hbn; replace hB := bl_trans (bl_trans hB (by go_grown)) hbn; replace P := P.bel (bl_trans (by go_grown) hbn); replace Pc := P.c1; replace Q := Q.bel (bl_trans (by go_grown) hbn); replace Qc := Q.c2; rw [C1.out]; clear hbn) | (go_at_call 163; refine (HasCell_i A c rs x y _ hl (hr'.out.below (bl_trans hB (by go_grown)))).mono ?_; rintro e wn ⟨rfl, hbn⟩; have hSz := bl_sz (bl_trans hB (by go_grown)) hbn; replace hB := bl_trans (bl_trans hB (by go_grown)) hbn; replace P := P.bel (bl_trans (by go_grown) hbn); replace Pc := P.c1; replace Q := Q.bel (bl_trans (by go_grown) hbn); replace Qc := Q.c2; rw [C2.out]; clear hbn))
      go_ret2
      exact ⟨_, rfl, OwD.nil_ _ _, hB⟩
    · have C1 := Lib.hid c1
      have C2 := Lib.hid c2
      obtain ⟨⟨hreg, hok⟩, _⟩ : (regOk rs = true ∧ cellOk x y = true) ∧ regHas rs x y = true := by simpa using c2
      obtain ⟨k0, hk0, hd0⟩ := door_at c1 c2
      have hk0N : k0 < N := by rw [hN]; exact (List.getElem?_eq_some_iff.1 hd0).1
      obtain ⟨fin, hfin⟩ : ∃ fin, fin = layL list N [doorD list (x, y)] := ⟨_, rfl⟩
      have HF := Lib.hid (show F = if fin.length = N then some fin else none by
        rw [hF]; unfold findLay; dsimp only; rw [c1, c2, hfin, hN]; rfl)
      have HFIN := Lib.hid hfin
      have HD0 := Lib.hid hd0
      have K0 := Lib.hid hk0
      have HOK := Lib.hid hok
      clear c1 c2 hF hN hreg hok hk0 hfin hd0
      go_enter Try.func79, Try.ntmps79
      go_upto_region 3 with (first | (go_at_call 164; refine (IsTiling_i A c rs B N d list _ hl HN.out hl3 (hr'.out.below (bl_trans hB (by go_grown))) (hs'.out.below (bl_trans hB (by go_grown)))).mono ?_; rintro e wn ⟨rfl, hbn⟩; have hSz := bl_sz (bl_trans hB (by go_grown)) hbn; replace hB := bl_trans (bl_trans hB (by go_grown)) hbn; replace P := P.bel (bl_trans (by go_grown) hbn); replace Pc := P.c1; replace Q := Q.bel (bl_trans (by go_grown) hbn); replace Qc := Q.c2; rw [C1.out]; clear hbn) | (go_at_call 163; refine (HasCell_i A c rs x y _ hl (hr'.out.below (bl_trans hB (by go_grown)))).mono ?_; rintro e wn ⟨rfl, hbn⟩; have hSz := bl_sz (bl_trans hB (by go_grown)) hbn; replace hB := bl_trans (bl_trans hB (by go_grown)) hbn; replace P := P.bel (bl_trans (by go_grown) hbn); replace Pc := P.c1; replace Q := Q.bel (bl_trans (by go_grown) hbn); replace Qc := Q.c2; rw [C2.out]; clear hbn))
      obtain ⟨b, off, u, v, z, rfl, hbl, hv, _, ga, gb, e0, e1, e2⟩ := (hs'.out.below hB).at_ (k := k0) (by have := HN.out; omega)
      have hdoor : doorD list (x, y) = (u, v, z) := by have := HD0.out; rw [hv] at this; injection this with this; exact this.symm
      have HV := Lib.hid hv
      have hgood : GoodD list [(u, v, z)] := ⟨by simp, fun e he => by simp at he; rw [he]; exact List.mem_of_getElem? hv⟩
      have HG0 := Lib.hid hgood
      have HL0 := Lib.hid (show layL list (N + 1 - [(u, v, z)].length) [(u, v, z)] = fin by rw [HFIN.out, hdoor]; rfl)
      clear hv hdoor hgood
      go_wp2_with (go_at_call 165; refine (DominoAt_i (some ⟨b, off, none⟩) N d list x y _ HN.out hl3 (hs'.out.below (bl_trans hB (by go_grown))) HOK.out).mono ?_; rintro e wx ⟨rfl, hbn⟩; have hSz := bl_sz (bl_trans hB (by go_grown)) hbn; replace hB := bl_trans (bl_trans hB (by go_grown)) hbn; replace P := P.bel (bl_trans (by go_grown) hbn); replace Pc := P.c1; replace Q := Q.bel (bl_trans (by go_grown) hbn); replace Qc := Q.c2; rw [K0.out]; replace e0 := (hbn.cell (p := ⟨b, off + k0 * 3, none⟩) hbl).trans e0; replace e1 := (hbn.cell (p := ⟨b, off + k0 * 3 + 1, none⟩) hbl).trans e1; replace e2 := (hbn.cell (p := ⟨b, off + k0 * 3 + 2, none⟩) hbl).trans e2; clear hbn)
      have hxw := hB.size
      have Ho := Lib.hid (show OwD w.heap.size (wx.alloc (.cells #[.int .i64 u, .int .i64 v, .bool z] 53)) (.slice (some ⟨wx.heap.size, 0, none⟩) 1 1) [(u, v, z)] from ⟨⟨_, _, rfl⟩, (Blk.new wx 53 [.int .i64 u, .int .i64 v, .bool z]).own hxw rfl (by decide), fun c hc => by simp at hc; subst hc; exact ⟨ga, gb⟩⟩)
      have hB0 := bl_alloc hB (.cells #[.int .i64 u, .int .i64 v, .bool z] 53)
      clear P Q Pc Qc e0 e1 e2 hB
      go_loopg [8, 9] (N + 1) (fun f v9 q wr => ∃ out, Hid (GoodD list out) ∧ ((q = .bool true ∧ f + out.length = N + 2 ∧ Hid (layL list (N + 1 - out.length) out = fin)) ∨ (q = .bool false ∧ Hid (out = fin))) ∧ OwD w.heap.size wr v9 out ∧ Below w.heap.size w wr)
      case atStart => exact ⟨[(u, v, z)], HG0, .inl ⟨rfl, by simp, HL0⟩, Ho.out, hB0⟩
      case round =>
        obtain ⟨out, HG, hq, own, hB⟩ := hrel
        clear Ho hB0 HL0 HG0
        obtain ⟨⟨A6, c6, rfl⟩, _⟩ := id own
        have hol : out.length ≤ N := by rw [HN.out]; exact HG.out.len
        obtain ⟨n5, hn5⟩ : ∃ n5, n5 = out.length := ⟨_, rfl⟩
        rw [← hn5] at own hol hq ⊢
        have Hn5 := Lib.hid hn5
        clear hn5
        rcases hq with ⟨rfl, hf, HL⟩ | ⟨rfl, HE⟩
        · have HO := Lib.hid own
          clear own
          go_wp2_with fail
          go_loopw [8, 9, 34] (fun v9 q q2 wr => ∃ k : Nat, k ≤ N ∧ v9 = .slice A6 n5 c6 ∧ q = .bool false ∧ q2 = .int .i64 k ∧ Hid (∀ j < k, canAt list out j = false) ∧ OwD w.heap.size wr (.slice A6 n5 c6) out ∧ Below w.heap.size w wr) (fun _ _ q2 _ => N - (intOf q2).toNat)
          case atStart => exact ⟨0, by omega, rfl, rfl, rfl, Lib.hid (fun j hj => absurd hj (by omega)), HO.out, hB⟩
          case round =>
            obtain ⟨k, hk, rfl, rfl, rfl, HA, own, hB'⟩ := hrel
            clear HO hB
            have hB := hB'
            clear hB'
            obtain ⟨wo, rfl⟩ : ∃ wo : World, wo = wr := ⟨_, rfl⟩
            by_cases hlt : k < N
            · obtain ⟨b2, off2, p, q3, r, hA2, hbl2, hv, _, gp, gq, e0, e1, e2⟩ := (hs'.out.below hB).at_ (k := k) (by have := HN.out; omega)
              injection hA2 with hA2
              injection hA2 with hA2 hA3
              subst hA2
              subst hA3
              have hcan := canAt_at (out := out) hv
              have D := Blk.new wo 53 [.int .i64 p, .int .i64 q3, .bool r]
              have Dc := D.c3
              have HO := Lib.hid (own.alloc' (.cells #[.int .i64 p, .int .i64 q3, .bool r] 53))
              replace hB := bl_alloc hB (.cells #[.int .i64 p, .int .i64 q3, .bool r] 53)
              have hXs : (wo.alloc (.cells #[.int .i64 p, .int .i64 q3, .bool r] 53)).heap.size = wo.heap.size + 1 := by simp
              have HV2 := Lib.hid hv
              clear own hv
              cases t1 : decide ((p, q3, r) ∈ out)
              · have T1 := Lib.hid t1
                have HC := Lib.hid (show canAt list out k = out.any (tch (p, q3, r)) by rw [hcan]; unfold canD; rw [t1]; rfl)
                clear t1 hcan
                go_wp2_with (go_at_call 116; refine (hasDomino_N A6 n5 c6 out p q3 r _ Hn5.out (by omega) (HO.out.rd.below (by go_grown)) _ T1.out).mono ?_; rintro e wy ⟨rfl, hbn⟩; have hSz := bl_sz (bl_trans hB (by go_grown)) hbn; replace hB := bl_trans (bl_trans hB (by go_grown)) hbn; replace D := D.bel (bl_trans (by go_grown) hbn); replace Dc := D.c3; replace HO := Lib.hid (HO.out.bel hbn); have hys := hbn.size; clear hbn)
                rw [hXs] at hys
                have HD := Lib.hid D
                clear D Dc
                go_loopw [9, 43] (fun q9 q wr' => ∃ i : Nat, i ≤ n5 ∧ q9 = .bool ((out.take i).any (tch (p, q3, r))) ∧ q = .int .i64 i ∧ Hid (Blk wr' wo.heap.size 53 [.int .i64 p, .int .i64 q3, .bool r]) ∧ OwD w.heap.size wr' (.slice A6 n5 c6) out ∧ Below w.heap.size w wr') (fun _ q _ => n5 - (intOf q).toNat)
                case atStart => exact ⟨0, by omega, rfl, rfl, HD, HO.out, hB⟩
                case round =>
                  obtain ⟨i, hi, rfl, rfl, HD2, own, hB'⟩ := hrel
                  clear HD HO hB
                  have hB := hB'
                  clear hB'
                  have hdlt := HD2.out.lt
                  by_cases hlt3 : i < n5
                  · obtain ⟨b3, off3, a1, a2, a3, rfl, hbl3, hv3, _, g1, g2, r0, r1, r2⟩ := own.rd.at_ (k := i) (by have := Hn5.out; omega)
                    have hnx := Lib.hid (any_take_next hv3 (tch (p, q3, r)))
                    have D2 := HD2.out.alloc (.cells #[.int .i64 a1, .int .i64 a2, .bool a3] 53)
                    have D2c := D2.c3
                    have E := Blk.new wr 53 [.int .i64 a1, .int .i64 a2, .bool a3]
                    have Ec := E.c3
                    have HO := Lib.hid (own.alloc' (.cells #[.int .i64 a1, .int .i64 a2, .bool a3] 53))
                    replace hB := bl_alloc hB (.cells #[.int .i64 a1, .int .i64 a2, .bool a3] 53)
                    clear own hv3
                    cases t2 : (out.take i).any (tch (p, q3, r))
                    · have T2 := Lib.hid t2
                      have hnx2 := Lib.hid (show (out.take (i + 1)).any (tch (p, q3, r)) = touch p q3 r a1 a2 a3 by rw [hnx.out, T2.out]; rfl)
                      clear t2
                      go_wp2_with (go_at_call 62; refine (DoTouch_i p q3 r a1 a2 a3 _).mono ?_; rintro e wn ⟨rfl, hbn⟩; have hSz := bl_sz (bl_trans hB (by go_grown)) hbn; replace hB := bl_trans (bl_trans hB (by go_grown)) hbn; replace D2 := D2.bel (bl_trans (by go_grown) hbn); replace D2c := D2.c3; replace E := E.bel (bl_trans (by go_grown) hbn); replace Ec := E.c3; replace HO := Lib.hid (HO.out.bel hbn); clear hbn)
                      go_roundw
                      case rel => exact ⟨i + 1, by omega, by rw [hnx2.out], by go_num, Lib.hid D2, HO.out, hB⟩
                      case measure => simp [intOf]; omega
                    · have T2 := Lib.hid t2
                      have hnx2 := Lib.hid (show (out.take (i + 1)).any (tch (p, q3, r)) = true by rw [hnx.out, T2.out]; rfl)
                      clear t2
                      go_wp2_with fail
                      go_roundw
                      case rel => exact ⟨i + 1, by omega, by rw [hnx2.out], by go_num, Lib.hid D2, HO.out, hB⟩
                      case measure => simp [intOf]; omega
                  · have hin : i = out.length := by have := Hn5.out; omega
                    have hta : (out.take i).any (tch (p, q3, r)) = out.any (tch (p, q3, r)) := by rw [hin, List.take_length]
                    rw [hta]
                    have hDc := HD2.out.c3
                    cases t3 : out.any (tch (p, q3, r))
                    · have H4 := Lib.hid (show ∀ j < k + 1, canAt list out j = false by
                        intro j hj
                        rcases Nat.lt_or_ge j k with h | h
                        · exact HA.out j h
                        · rw [show j = k by omega, HC.out, t3])
                      clear t3 hin hta
                      go_wp2_with fail
                      go_roundw
                      case rel => exact ⟨k + 1, by omega, rfl, rfl, by go_num, H4, own, hB⟩
                      case measure => simp [intOf]; omega
                    · have hcd : canD out (p, q3, r) = true := by rw [← canAt_at HV2.out, HC.out, t3]
                      have HG2 := Lib.hid (HG.out.cons HV2.out hcd)
                      have HL2 := Lib.hid (show layL list (N + 1 - (n5 + 1)) ((p, q3, r) :: out) = fin by
                        rw [← HL.out, show N + 1 - n5 = (N + 1 - (n5 + 1)) + 1 by omega, layL_step HV2.out hcd HA.out])
                      clear t3 hin hta hcd
                      have hle := hB.size
                      have ho1 : OwD w.heap.size (wr.alloc (.cells #[.int .i64 p, .int .i64 q3, .bool r] 53)) (.slice (some ⟨wr.heap.size, 0, none⟩) 1 1) [(p, q3, r)] := ⟨⟨_, _, rfl⟩, (Blk.new wr 53 [.int .i64 p, .int .i64 q3, .bool r]).own hle rfl (by decide), fun c hc => by simp at hc; subst hc; exact ⟨gp, gq⟩⟩
                      have HO1 := Lib.hid ho1
                      have HO2 := Lib.hid (own.alloc' (.cells #[.int .i64 p, .int .i64 q3, .bool r] 53)).rd
                      replace hB := bl_alloc hB (.cells #[.int .i64 p, .int .i64 q3, .bool r] 53)
                      have hle2 := hB.size
                      clear ho1 own
                      go_wp2_with (go_loud (at_builtin; refine wpList_apsD rfl (.tmp 56) (.tmp 57) rfl w.heap.size _ [(p, q3, r)] out _ _ rfl n5 rfl HO1.out HO2.out Hn5.out hle2 (by simp) (by have := Hn5.out; omega) ?_; intro v1 w1 o1 b1))
                      go_roundg (gk - 1)
                      case measure => omega
                      case rel => exact ⟨(p, q3, r) :: out, HG2, .inl ⟨rfl, by rw [List.length_cons, ← Hn5.out]; omega, by rw [List.length_cons, ← Hn5.out]; exact HL2⟩, o1, b1 _ hB⟩
              · have T1 := Lib.hid t1
                have HC := Lib.hid (show canAt list out k = false by rw [hcan]; unfold canD; rw [t1]; rfl)
                clear t1 hcan
                go_wp2_with (go_at_call 116; refine (hasDomino_N A6 n5 c6 out p q3 r _ Hn5.out (by omega) (HO.out.rd.below (by go_grown)) _ T1.out).mono ?_; rintro e wn ⟨rfl, hbn⟩; have hSz := bl_sz (bl_trans hB (by go_grown)) hbn; replace hB := bl_trans (bl_trans hB (by go_grown)) hbn; replace D := D.bel (bl_trans (by go_grown) hbn); replace Dc := D.c3; replace HO := Lib.hid (HO.out.bel hbn); clear hbn)
                have H4 := Lib.hid (show ∀ j < k + 1, canAt list out j = false by
                  intro j hj
                  rcases Nat.lt_or_ge j k with h | h
                  · exact HA.out j h
                  · rw [show j = k by omega, HC.out])
                go_roundw
                case rel => exact ⟨k + 1, by omega, rfl, rfl, by go_num, H4, HO.out, hB⟩
                case measure => simp [intOf]; omega
            · have hend : out = fin := by
                rw [← HL.out, layL_end _ (fun i hi => HA.out i (by have := HN.out; omega))]
              have HE := Lib.hid hend
              clear hend
              go_wp2_with fail
              go_roundg (gk - 1)
              case measure => omega
              case rel => exact ⟨out, HG, .inr ⟨rfl, HE⟩, own, hB⟩
        · by_cases hnn : n5 = N
          · obtain rfl : F = some out := by rw [HF.out, ← HE.out, ← Hn5.out, if_pos hnn]
            obtain rfl : N = n5 := hnn.symm
            clear hnn
            have HO := Lib.hid own
            clear own
            go_wp2_with fail
            go_ret2
            exact ⟨_, rfl, HO.out, hB⟩
          · obtain rfl : F = none := by rw [HF.out, ← HE.out, ← Hn5.out, if_neg hnn]
            have hnn' : ¬ ((n5 : Nat) : Int) = ((N : Nat) : Int) := by omega
            go_wp2_with fail
            go_ret2
            exact ⟨_, rfl, OwD.nil_ _ _, hB⟩
end Go.Proofs.Ytdcjhfmkkcakhaa

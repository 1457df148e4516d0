/-
  Contracts of the functions that compare and gather turns of a shape: what each returns, as a function of its arguments; nothing that was there is written; at most 1048576 cells.
-/
import Derived.Test.YtdcjhfmkkcakhaaTurn
import Derived.Test.YtdcjhfmkkcakhaaFitS
import Derived.Test.YtdcjhfmkkcakhaaItems
import Derived.Deep.CutRange
namespace Go.Proofs.Ytdcjhfmkkcakhaa
open Go.ChangeShapes Go.WideShapes Go.ChangeAt Go.RowKit Go.Deep
set_option linter.unusedVariables false

theorem lexB_lt {x y : Int} (s t : List Int) (h : x < y) : lexB (x :: s) (y :: t) = true := by simp [lexB, h]
theorem lexB_gt {x y : Int} (s t : List Int) (h : y < x) : lexB (x :: s) (y :: t) = false := by
  simp only [lexB, Bool.or_eq_false_iff, Bool.and_eq_false_iff, decide_eq_false_iff_not, beq_eq_false_iff_ne]
  exact ⟨by omega, .inl (by omega)⟩
theorem lexB_same (x : Int) (s t : List Int) : lexB (x :: s) (x :: t) = lexB s t := by simp [lexB]
set_option maxHeartbeats 1000000 in
theorem isLess_any (A B : Option Addr) (N M c d : Nat) (l m : List Int) (w : World) (hN : N = l.length) (hM : M = m.length) (hlm : N = M) (hl : N ≤ 1048576) (hr : RdI w A l) (hs : RdI w B m) :
    Calls Try.prog 154 #[.slice A N c, .slice B M d] w fun e w' => e = .returned (.bool (lexB l m)) ∧ Below w.heap.size w w' := by
  have HN := Lib.hid hN
  have HM := Lib.hid hM
  have hr' := Lib.hid hr
  have hs' := Lib.hid hs
  have HLM := Lib.hid hlm
  clear hN hM hr hs hlm
  go_enter Try.func154, Try.ntmps154
  go_wp2
  go_loopw [8] (fun i wr => ∃ k : Nat, k ≤ N ∧ i = .int .i64 k ∧ lexB l m = lexB (l.drop k) (m.drop k) ∧ Below w.heap.size w wr) (fun i _ => N - (intOf i).toNat)
  case atStart => exact ⟨0, by omega, rfl, rfl, by go_grown⟩
  case round =>
    obtain ⟨k, hk, rfl, hall, hB⟩ := hrel
    by_cases hlt : k < N
    · obtain ⟨b1, o1, x, rfl, hb1, hx, hdx, _, cx⟩ := (hr'.out.below hB).at_ (k := k) (by have := HN.out; omega)
      obtain ⟨b2, o2, y, rfl, hb2, hy, hdy, _, cy⟩ := (hs'.out.below hB).at_ (k := k) (by have := HM.out; have := HLM.out; omega)
      rw [hdx, hdy] at hall
      have hkM : k < M := by have := HLM.out; omega
      have q1 := bq_cell cx
      have q2 := bq_cell cy
      have HB := Lib.hid hB
      have CX := Lib.hid cx
      have CY := Lib.hid cy
      clear hx hy hdx hdy cx cy hB
      by_cases e : x = y
      · subst e
        rw [lexB_same] at hall
        have H := Lib.hid hall
        clear hall
        have d1 : decide (x = x) = true := decide_eq_true rfl
        go_wp2_with fail
        (refine wp_region_quiet_bel (by kernel_rfl) (by kernel_rfl) ?_; (repeat (first | go_big_quiet_step (fail) | quiet_step (fail))); refine wpQuiet_nil ?_; intro wq hw0; obtain ⟨⟨_, hbq⟩, hw1⟩ := hw0; subst hw1; try dsimp only)
        go_wp2_with fail
        go_roundw
        case rel => exact ⟨k + 1, by omega, by go_num, H.out, bl_trans HB.out hbq⟩
        case measure => simp [intOf]; omega
      · have d1 : (x == y) = false := by simpa using e
        by_cases h : x < y
        · rw [lexB_lt _ _ h] at hall
          have d2 : decide (x < y) = true := decide_eq_true h
          have H := Lib.hid hall
          clear hall h e
          go_wp2_with fail
          (refine wp_region_quiet_bel (by kernel_rfl) (by kernel_rfl) ?_; (repeat (first | go_big_quiet_step (fail) | quiet_step (fail))); refine wpQuiet_nil ?_; intro wq hw0; obtain ⟨⟨_, hbq⟩, hw1⟩ := hw0; subst hw1; try dsimp only)
          have z1 := bq_cell ((hbq.cell (p := ⟨b1, o1 + k, none⟩) hb1).trans CX.out)
          have z2 := bq_cell ((hbq.cell (p := ⟨b2, o2 + k, none⟩) hb2).trans CY.out)
          replace HB := Lib.hid (bl_trans HB.out hbq)
          clear q1 q2 hbq
          go_wp2_with fail
          (refine wp_region_quiet_bel (by kernel_rfl) (by kernel_rfl) ?_; (repeat (first | go_big_quiet_step (fail) | quiet_step (fail))); refine wpQuiet_nil ?_; intro wq hw0; obtain ⟨⟨_, hbq⟩, hw1⟩ := hw0; subst hw1; try dsimp only)
          go_wp2_with fail
          go_ret
          exact ⟨ret_bool H.out.symm, bl_trans HB.out hbq⟩
        · rw [lexB_gt _ _ (by omega)] at hall
          have d2 : decide (x < y) = false := decide_eq_false h
          have H := Lib.hid hall
          clear hall h e
          go_wp2_with fail
          (refine wp_region_quiet_bel (by kernel_rfl) (by kernel_rfl) ?_; (repeat (first | go_big_quiet_step (fail) | quiet_step (fail))); refine wpQuiet_nil ?_; intro wq hw0; obtain ⟨⟨_, hbq⟩, hw1⟩ := hw0; subst hw1; try dsimp only)
          have z1 := bq_cell ((hbq.cell (p := ⟨b1, o1 + k, none⟩) hb1).trans CX.out)
          have z2 := bq_cell ((hbq.cell (p := ⟨b2, o2 + k, none⟩) hb2).trans CY.out)
          replace HB := Lib.hid (bl_trans HB.out hbq)
          clear q1 q2 hbq
          go_wp2_with fail
          (refine wp_region_quiet_bel (by kernel_rfl) (by kernel_rfl) ?_; (repeat (first | go_big_quiet_step (fail) | quiet_step (fail))); refine wpQuiet_nil ?_; intro wq hw0; obtain ⟨⟨_, hbq⟩, hw1⟩ := hw0; subst hw1; try dsimp only)
          go_wp2_with fail
          go_ret
          exact ⟨ret_bool H.out.symm, bl_trans HB.out hbq⟩
    · have h1 : l.drop k = [] := List.drop_eq_nil_of_le (by have := HN.out; omega)
      rw [h1] at hall
      have H := Lib.hid (show lexB l m = false by rw [hall]; rfl)
      clear hall h1
      go_wp2_with fail
      go_ret
      exact ⟨ret_bool H.out.symm, hB⟩
set_option maxHeartbeats 1000000 in
theorem sameInts_any (A B : Option Addr) (N M c d : Nat) (l m : List Int) (w : World) (hN : N = l.length) (hM : M = m.length) (hlm : N = M) (hl : N ≤ 1048576) (hr : RdI w A l) (hs : RdI w B m) :
    Calls Try.prog 156 #[.slice A N c, .slice B M d] w fun e w' => e = .returned (.bool (l == m)) ∧ Below w.heap.size w w' := by
  have HN := Lib.hid hN
  have HM := Lib.hid hM
  have hr' := Lib.hid hr
  have hs' := Lib.hid hs
  clear hN hM hr hs
  obtain rfl : M = N := hlm.symm
  go_enter Try.func156, Try.ntmps156
  go_wp2
  go_loopw [13] (fun i wr => ∃ k : Nat, k ≤ M ∧ i = .int .i64 k ∧ (l == m) = (l.drop k == m.drop k) ∧ Below w.heap.size w wr) (fun i _ => M - (intOf i).toNat)
  case atStart => exact ⟨0, by omega, rfl, rfl, by go_grown⟩
  case round =>
    obtain ⟨k, hk, rfl, hall, hB⟩ := hrel
    by_cases hlt : k < M
    · obtain ⟨b1, o1, x, rfl, hb1, hx, hdx, _, cx⟩ := (hr'.out.below hB).at_ (k := k) (by have := HN.out; omega)
      obtain ⟨b2, o2, y, rfl, hb2, hy, hdy, _, cy⟩ := (hs'.out.below hB).at_ (k := k) (by have := HM.out; omega)
      rw [hdx, hdy] at hall
      have q1 := bq_cell cx
      have q2 := bq_cell cy
      have HB := Lib.hid hB
      clear hx hy hdx hdy cx cy hB
      by_cases e : x = y
      · subst e
        have H := Lib.hid (show (l == m) = (l.drop (k + 1) == m.drop (k + 1)) by rw [hall]; simp)
        clear hall
        have d1 : (x == x) = true := by simp
        go_wp2_with fail
        (refine wp_region_quiet_bel (by kernel_rfl) (by kernel_rfl) ?_; (repeat (first | go_big_quiet_step (fail) | quiet_step (fail))); refine wpQuiet_nil ?_; intro wq hw0; obtain ⟨⟨_, hbq⟩, hw1⟩ := hw0; subst hw1; try dsimp only)
        go_wp2_with fail
        go_roundw
        case rel => exact ⟨k + 1, by omega, by go_num, H.out, bl_trans HB.out hbq⟩
        case measure => simp [intOf]; omega
      · have d1 : (x == y) = false := by simpa using e
        have H := Lib.hid (show (l == m) = false by rw [hall]; simp [e])
        clear hall e
        go_wp2_with fail
        (refine wp_region_quiet_bel (by kernel_rfl) (by kernel_rfl) ?_; (repeat (first | go_big_quiet_step (fail) | quiet_step (fail))); refine wpQuiet_nil ?_; intro wq hw0; obtain ⟨⟨_, hbq⟩, hw1⟩ := hw0; subst hw1; try dsimp only)
        go_wp2_with fail
        go_ret
        exact ⟨ret_bool H.out.symm, bl_trans HB.out hbq⟩
    · have h1 : l.drop k = [] := List.drop_eq_nil_of_le (by have := HN.out; omega)
      have h2 : m.drop k = [] := List.drop_eq_nil_of_le (by have := HM.out; omega)
      rw [h1, h2] at hall
      have H := Lib.hid (show (l == m) = true by rw [hall]; rfl)
      clear hall h1 h2
      go_wp2_with fail
      go_ret
      exact ⟨ret_bool H.out.symm, hB⟩
def cmpL (a b : List Cl) : Int := if lexB (indicesL a) (indicesL b) then -1 else if indicesL a == indicesL b then 0 else 1
theorem cmpL_cons (c d : Cl) (s t : List Cl) : cmpL (c :: s) (d :: t) = if idxI c < idxI d then -1 else if idxI d < idxI c then 1 else cmpL s t := by
  unfold cmpL
  show (if lexB (idxI c :: indicesL s) (idxI d :: indicesL t) then (-1 : Int) else if (idxI c :: indicesL s) == (idxI d :: indicesL t) then 0 else 1) = _
  by_cases h1 : idxI c < idxI d
  · rw [lexB_lt _ _ h1, if_pos rfl, if_pos h1]
  · rw [if_neg h1]
    by_cases h2 : idxI d < idxI c
    · rw [lexB_gt _ _ h2, if_pos h2, if_neg (by simp), if_neg]
      simp; omega
    · rw [if_neg h2]
      have e : idxI c = idxI d := by omega
      rw [e, lexB_same]
      simp
set_option maxHeartbeats 1000000 in
theorem l29Compare_any (A B : Option Addr) (N M c d : Nat) (l m : List Cl) (w : World) (hN : N = l.length) (hM : M = m.length) (hlm : N = M) (hl : N ≤ 1048576) (hr : RdC w A l) (hs : RdC w B m) :
    Calls Try.prog 182 #[.slice A N c, .slice B M d] w fun e w' => e = .returned (.int .i64 (cmpL l m)) ∧ Below w.heap.size w w' := by
  have HN := Lib.hid hN
  have HM := Lib.hid hM
  have hr' := Lib.hid hr
  have hs' := Lib.hid hs
  clear hN hM hr hs
  obtain rfl : M = N := hlm.symm
  go_enter Try.func182, Try.ntmps182
  go_wp2
  go_loopw [5] (fun i wr => ∃ k : Nat, k ≤ M ∧ i = .int .i64 k ∧ cmpL l m = cmpL (l.drop k) (m.drop k) ∧ Below w.heap.size w wr) (fun i _ => M - (intOf i).toNat)
  case atStart => exact ⟨0, by omega, rfl, rfl, by go_grown⟩
  case round =>
    obtain ⟨k, hk, rfl, hall, hB⟩ := hrel
    by_cases hlt : k < M
    · obtain ⟨b1, o1, x, y, rfl, hb1, hx, hdx, _, _, cx, cy⟩ := (hr'.out.below hB).at_ (k := k) (by have := HN.out; omega)
      obtain ⟨b2, o2, u, v, rfl, hb2, hy, hdy, _, _, cu, cv⟩ := (hs'.out.below hB).at_ (k := k) (by have := HM.out; omega)
      rw [hdx, hdy, cmpL_cons] at hall
      have H := Lib.hid hall
      have HB := Lib.hid hB
      have R0 := Lib.hid (hr'.out.below hB)
      have hi : cellIdx x y = idxI (x, y) := rfl
      have hj : cellIdx u v = idxI (u, v) := rfl
      obtain ⟨p, hp⟩ : ∃ p, p = idxI (x, y) := ⟨_, rfl⟩
      obtain ⟨q, hq⟩ : ∃ q, q = idxI (u, v) := ⟨_, rfl⟩
      rw [← hp, ← hq] at H
      rw [← hp] at hi
      rw [← hq] at hj
      have Hi := Lib.hid hi
      have Hj := Lib.hid hj
      have HC := Lib.hid cu
      have HD := Lib.hid cv
      clear hx hy hdx hdy hall hi hj hp hq cu cv HB
      by_cases h1 : p < q
      · have d1 : decide (p < q) = true := decide_eq_true h1
        rw [if_pos h1] at H
        clear h1
        go_wp2_with (first | (go_at_call 180; refine (CellIndex_s _ _ _).mono ?_; rintro e wn ⟨rfl, hbn⟩; have hSz := bl_sz (bl_trans hB (by go_grown)) hbn; replace hB := bl_trans (bl_trans hB (by go_grown)) hbn; (first | (rw [Hi.out]; have u0 := (hbn.cell (p := ⟨b2, o2 + k * 2, none⟩) hb2).trans HC.out; have u1 := (hbn.cell (p := ⟨b2, o2 + k * 2 + 1, none⟩) hb2).trans HD.out) | rw [Hj.out]); clear hbn))
        go_ret
        exact ⟨ret_int H.out.symm, hB⟩
      · have d1 : decide (p < q) = false := decide_eq_false h1
        rw [if_neg h1] at H
        by_cases h2 : q < p
        · have d2 : decide (q < p) = true := decide_eq_true h2
          rw [if_pos h2] at H
          clear h1 h2
          go_wp2_with (first | (go_at_call 180; refine (CellIndex_s _ _ _).mono ?_; rintro e wn ⟨rfl, hbn⟩; have hSz := bl_sz (bl_trans hB (by go_grown)) hbn; replace hB := bl_trans (bl_trans hB (by go_grown)) hbn; (first | (rw [Hi.out]; have u0 := (hbn.cell (p := ⟨b2, o2 + k * 2, none⟩) hb2).trans HC.out; have u1 := (hbn.cell (p := ⟨b2, o2 + k * 2 + 1, none⟩) hb2).trans HD.out) | rw [Hj.out]); clear hbn))
          go_ret
          exact ⟨ret_int H.out.symm, hB⟩
        · have d2 : decide (q < p) = false := decide_eq_false h2
          rw [if_neg h2] at H
          clear h1 h2
          go_wp2_with (first | (go_at_call 180; refine (CellIndex_s _ _ _).mono ?_; rintro e wn ⟨rfl, hbn⟩; have hSz := bl_sz (bl_trans hB (by go_grown)) hbn; replace hB := bl_trans (bl_trans hB (by go_grown)) hbn; (first | (rw [Hi.out]; have u0 := (hbn.cell (p := ⟨b2, o2 + k * 2, none⟩) hb2).trans HC.out; have u1 := (hbn.cell (p := ⟨b2, o2 + k * 2 + 1, none⟩) hb2).trans HD.out) | rw [Hj.out]); clear hbn))
          go_roundw
          case rel => exact ⟨k + 1, by omega, by go_num, H.out, hB⟩
          case measure => simp [intOf]; omega
    · have h1 : l.drop k = [] := List.drop_eq_nil_of_le (by have := HN.out; omega)
      have h2 : m.drop k = [] := List.drop_eq_nil_of_le (by have := HM.out; omega)
      rw [h1, h2] at hall
      have H := Lib.hid (show cmpL l m = 0 by rw [hall]; rfl)
      clear hall h1 h2
      go_wp2_with fail
      go_ret
      exact ⟨ret_int H.out.symm, hB⟩
def turnsR (l : List Cl) : List (List Cl) := if shapeOk l then turnsL l else []
theorem shapeOk_strict {l : List Cl} (h : shapeOk l = true) : Strict l := by
  unfold shapeOk at h
  simp only [Bool.and_eq_true] at h
  exact strict_of h.2.1
theorem strict_srt {l : List Cl} (h : Box l) (hs : l.Pairwise ltC) : Strict l := by
  refine ⟨h, ?_⟩
  rw [List.pairwise_map]
  refine List.Pairwise.imp_of_mem (fun {a b} ha hb hab => ?_) hs
  have h1 := cellOk_iff.1 (h a ha)
  have h2 := cellOk_iff.1 (h b hb)
  unfold ltC at hab
  rw [gtC_iff] at hab
  unfold idxN
  omega
theorem turnsR_of {l r : List Cl} (h : r ∈ turnsR l) : Strict r ∧ r.length = l.length ∧ 1 ≤ l.length ∧ l.length ≤ 5 := by
  unfold turnsR at h
  split at h
  · rename_i hs
    have h5 := shapeOk_len hs
    have st := shapeOk_strict hs
    obtain ⟨j, hj, rfl⟩ := (turnsTo_mem st.ok 8 r).1 h
    exact ⟨strict_srt (turnL_box st.ok j) (fitTo_srt (turn_nodup st.nodup j) _ _), turnL_len l j, h5.1, h5.2⟩
  · simp at h
theorem turnsR_len (l : List Cl) : (turnsR l).length ≤ 8 := by
  unfold turnsR
  split
  · exact turnsTo_len l 8
  · simp
theorem turnsR_mem (l : List Cl) : ∀ r ∈ turnsR l, r.length ≤ 1048576 := fun r hr => by have := turnsR_of hr; omega
theorem rep_rng {c : Cl} (h : (-7 ≤ c.1 ∧ c.1 ≤ 7) ∧ -7 ≤ c.2 ∧ c.2 ≤ 7) : ∀ m, (-7 ≤ (Nat.repeat rotC m c).1 ∧ (Nat.repeat rotC m c).1 ≤ 7) ∧ -7 ≤ (Nat.repeat rotC m c).2 ∧ (Nat.repeat rotC m c).2 ≤ 7 := by
  intro m
  induction m with
  | zero => exact h
  | succ m ih =>
    have e : Nat.repeat rotC (m + 1) c = (-(Nat.repeat rotC m c).2, (Nat.repeat rotC m c).1) := rfl
    rw [e]; dsimp only; omega
theorem take_map_snoc {l : List Cl} {k : Nat} {c : Cl} (f : Cl → Cl) (h : l[k]? = some c) : (l.take (k + 1)).map f = (l.take k).map f ++ [f c] := by rw [take_snoc_at h]; simp
set_option maxRecDepth 100000 in
set_option maxHeartbeats 1000000 in
theorem TurnsOfShape_i (A : Option Addr) (N c : Nat) (l : List Cl) (w : World) (hN : N = l.length) (hl : N ≤ 1048576) (hr : RdC w A l) :
    Calls Try.prog 70 #[.slice A N c] w fun e w' => ∃ v, e = .returned v ∧ InCC w.heap.size w'.heap.size w' v (turnsR l) ∧ Below w.heap.size w w' := by
  have HN := Lib.hid hN
  have hr' := Lib.hid hr
  have hB := Below.refl w.heap.size w
  cases c1 : shapeOk l
  · have hv := Lib.hid (show turnsR l = [] by unfold turnsR; rw [c1]; rfl)
    have C1 := Lib.hid c1
    clear hN hr c1
    go_enter Try.func70, Try.ntmps70
    go_wp2_with (go_at_call 71; refine (ShapeOk_i A N c l _ HN.out hl (hr'.out.below hB)).mono ?_; rintro e wn ⟨rfl, hbn⟩; have hSz := bl_sz (bl_trans hB (by go_grown)) hbn; replace hB := bl_trans (bl_trans hB (by go_grown)) hbn; rw [C1.out]; clear hbn)
    go_ret
    exact ⟨_, rfl, by rw [hv.out]; exact InS.nil_ .., hB⟩
  · have h5 := shapeOk_len c1
    rw [← hN] at h5
    have hst := shapeOk_strict c1
    have HBx := Lib.hid (show Box l from hst.ok)
    have Hrv := Lib.hid (show turnsR l = turnsTo l 8 by unfold turnsR; rw [c1]; rfl)
    have C1 := Lib.hid c1
    clear hN hr c1 hst
    go_enter Try.func70, Try.ntmps70
    go_wp2_with (go_at_call 71; refine (ShapeOk_i A N c l _ HN.out hl (hr'.out.below hB)).mono ?_; rintro e wn ⟨rfl, hbn⟩; have hSz := bl_sz (bl_trans hB (by go_grown)) hbn; replace hB := bl_trans (bl_trans hB (by go_grown)) hbn; rw [C1.out]; clear hbn)
    have hB0 := bl_alloc hB (.cells #[] 28)
    have ho := Lib.hid (InL.new_ 28 InC (lo := w.heap.size) (hi := (wn.alloc (.cells #[] 28)).heap.size) (w := wn) hB.size (by simp))
    go_loopw [3, 13] (fun v i wr => ∃ (k : Nat) (its : List (It (List Cl))), k ≤ 8 ∧ i = .int .i64 k ∧ InL 28 InC w.heap.size wr.heap.size wr v its ∧ its.map It.l = turnsTo l k ∧ Below w.heap.size w wr) (fun _ i _ => 8 - (intOf i).toNat)
    case atStart => exact ⟨0, [], by omega, rfl, ho.out, rfl, hB0⟩
    case round =>
      obtain ⟨k, its, hk, rfl, hown, hits, hBr⟩ := hrel
      clear ho hB hB0
      obtain ⟨wo, rfl⟩ : ∃ wo : World, wo = wr := ⟨_, rfl⟩
      have HO := Lib.hid hown
      have HI := Lib.hid hits
      have HBr := Lib.hid hBr
      obtain ⟨A3, c3, rfl⟩ := hown.1
      clear hits hown
      by_cases hlt : k < 8
      · have d8 : decide ((k : Int) < 8) = true := decide_eq_true (by omega)
        have ho2 := Lib.hid (OwC.new_ (B := wo.heap.size) (w := wo) (Nat.le_refl _))
        have hB1 := bl_alloc (Below.refl wo.heap.size wo) (.cells #[] 35)
        go_wp2_with fail
        go_loopw [5, 19] (fun v i wr => ∃ j : Nat, j ≤ N ∧ i = .int .i64 j ∧ OwC wo.heap.size wr v ((l.take j).map (turnC k)) ∧ Below wo.heap.size wo wr) (fun _ i _ => N - (intOf i).toNat)
        case atStart => exact ⟨0, by omega, rfl, ho2.out, hB1⟩
        case round =>
          obtain ⟨j, hj, rfl, own, hB2⟩ := hrel
          clear ho2 hB1
          by_cases hjn : j < N
          · obtain ⟨b, off, x, y, rfl, hbl, hv, hd, g1, g2, c0, c1⟩ := ((hr'.out.below HBr.out).below hB2).at_ (k := j) (by have := HN.out; omega)
            have hok := cellOk_iff.1 (HBx.out _ (List.mem_of_getElem? hv))
            dsimp only at hok
            have Hsn := Lib.hid (take_map_snoc (turnC k) hv)
            have Ho := Lib.hid own
            have hol : ((l.take j).map (turnC k)).length ≤ 1048576 := by rw [List.length_map, List.length_take]; omega
            obtain ⟨A5, c5, rfl⟩ := own.form
            have P := Blk.new wr 35 [.int .i64 x, .int .i64 y]
            have Pc := P.c2
            have hbz : b < wr.heap.size + 1 := by omega
            clear hv hd own
            obtain ⟨x1, hx1⟩ : ∃ x1, x1 = (if 4 ≤ k then mirC (x, y) else (x, y)).1 := ⟨_, rfl⟩
            have Hx1 := Lib.hid hx1
            clear hx1
            go_upto_if 24 with fail
            go_cut [19] from 19 to 44 (fun q wr' => q = .int .i64 j ∧ Hid (Blk wr' wr.heap.size 35 [.int .i64 x1, .int .i64 y]) ∧ Hid (Below wr.heap.size wr wr'))
            case first =>
              by_cases h4 : 4 ≤ k
              · have d4 : decide ((4 : Int) ≤ (k : Int)) = true := decide_eq_true (by omega)
                have hx2 : x1 = -x := by have := Hx1.out; rw [if_pos h4] at this; exact this
                have hB3 := bl_alloc (Below.refl wr.heap.size wr) (.cells #[.int .i64 x, .int .i64 y] 35)
                go_wp2_with fail
                go_meet
                exact ⟨rfl, Lib.hid (by rw [hx2]; exact Blk.new wr 35 [.int .i64 (-x), .int .i64 y]), Lib.hid (bl_alloc (Below.refl wr.heap.size wr) (.cells #[.int .i64 (-x), .int .i64 y] 35))⟩
              · have d4 : decide ((4 : Int) ≤ (k : Int)) = false := decide_eq_false (by omega)
                have hx2 : x1 = x := by have := Hx1.out; rw [if_neg h4] at this; exact this
                have hB3 := bl_alloc (Below.refl wr.heap.size wr) (.cells #[.int .i64 x, .int .i64 y] 35)
                go_wp2_with fail
                go_meet
                exact ⟨rfl, Lib.hid (by rw [hx2]; exact P), Lib.hid hB3⟩
            case rest =>
              obtain ⟨rfl, HP, HB3⟩ := hcut
              clear P Pc
              obtain ⟨wp, rfl⟩ : ∃ wp : World, wp = wr := ⟨_, rfl⟩
              have hx0 : -7 ≤ x1 ∧ x1 ≤ 7 := by have := Hx1.out; unfold mirC at this; split at this <;> (dsimp only at this; omega)
              have Hrep := Lib.hid (rep_rng (c := (x1, y)) ⟨hx0, by dsimp only; omega⟩)
              have Hturn := Lib.hid (show turnC k (x, y) = Nat.repeat rotC (k % 4) (x1, y) by
                unfold turnC; congr 1; have := Hx1.out; unfold mirC at this ⊢; split at this <;> rename_i h4 <;> simp [h4, this])
              have hrem : Int.tmod (k : Int) 4 = ((k % 4 : Nat) : Int) := by rw [Int.tmod_eq_emod_of_nonneg (by omega)]; omega
              obtain ⟨r, hr⟩ : ∃ r, r = k % 4 := ⟨_, rfl⟩
              rw [← hr] at hrem Hturn
              have hr4 : r < 4 := by omega
              clear hr
              go_wp2_with fail
              go_loopw [31] (fun i wr => ∃ q : Nat, q ≤ r ∧ i = .int .i64 q ∧ Hid (Blk wr wp.heap.size 35 [.int .i64 (Nat.repeat rotC q (x1, y)).1, .int .i64 (Nat.repeat rotC q (x1, y)).2]) ∧ Hid (Below wp.heap.size wp wr)) (fun i _ => r - (intOf i).toNat)
              case atStart => exact ⟨0, by omega, rfl, HP, HB3⟩
              case round =>
                obtain ⟨q, hq, rfl, HP2, HB4⟩ := hrel
                clear HP HB3
                obtain ⟨u, hu⟩ : ∃ u, u = (Nat.repeat rotC q (x1, y)).1 := ⟨_, rfl⟩
                obtain ⟨v, hv⟩ : ∃ v, v = (Nat.repeat rotC q (x1, y)).2 := ⟨_, rfl⟩
                rw [← hu, ← hv] at HP2
                have hrg := Hrep.out q
                rw [← hu, ← hv] at hrg
                have Pc3 := HP2.out.c2
                have f0 := HP2.out.frozen 0
                have f1 := HP2.out.frozen 1
                have Hu := Lib.hid hu
                have Hv := Lib.hid hv
                clear hu hv
                by_cases hqr : q < r
                · go_wp2_with fail
                  go_roundw
                  case rel => exact ⟨q + 1, by omega, by go_num, Lib.hid (by
                    have e : Nat.repeat rotC (q + 1) (x1, y) = (-v, u) := by rw [Hu.out, Hv.out]; rfl
                    rw [e]; exact (HP2.out.set_ 0 _).set_ 1 _), Lib.hid (bl_set (bl_set HB4.out (p := ⟨wp.heap.size, 0, none⟩) (Nat.le_refl _) _) (p := ⟨wp.heap.size, 1, none⟩) (Nat.le_refl _) _)⟩
                  case measure => simp [intOf]; omega
                · obtain rfl : q = r := by omega
                  have HO2 := Lib.hid (Ho.out.bel HB4.out)
                  have hBw := hB2.trans (HB4.out.mono hB2.size)
                  have hws := HP2.out.lt
                  go_wp2_with (at_builtin; refine wpList_atC rfl (.tmp 40) (.tmp 42) rfl wo.heap.size (.slice A5 _ c5) _ u v rfl rfl HO2.out hBw.size hol ⟨by omega, by omega⟩ ⟨by omega, by omega⟩ ?_; intro v' w1 ho1 hb1 hg1 hat1 hsz1)
                  go_roundw
                  case rel => exact ⟨j + 1, by omega, by go_num, by rw [Hsn.out, Hturn.out]; rw [show Nat.repeat rotC q (x1, y) = (u, v) from Prod.ext Hu.out.symm Hv.out.symm]; exact ho1, hb1 _ hBw⟩
                  case measure => simp [intOf]; omega
          · have htk : l.take j = l := List.take_of_length_le (by have := HN.out; omega)
            rw [htk] at own
            obtain ⟨A5, c5, rfl⟩ := own.form
            have hlen : (l.map (turnC k)).length = N := by rw [List.length_map]; exact HN.out.symm
            rw [hlen] at own ⊢
            have Ho := Lib.hid own
            have HLEN := Lib.hid hlen.symm
            have HNear := Lib.hid (turn_near HBx.out k).1
            have h0 : 0 < N := by omega
            clear own hlen htk
            have hB := hB2
            obtain ⟨own, hown⟩ : ∃ own, own = turnL l k := ⟨_, rfl⟩
            have hln : own.length = N := by rw [hown, turnL_len]; exact HN.out.symm
            have hobx : Box own := by rw [hown]; exact turnL_box HBx.out k
            have hto : turnsTo l (k + 1) = insT (turnsTo l k) own := by rw [hown]; rfl
            have hft : fitL (l.map (turnC k)) = own := by rw [hown]; rfl
            have hs : SrtT N (its.map It.l) := by rw [HI.out]; have := turnsTo_srt HBx.out k; rwa [← HN.out] at this
            have hml := turnsTo_len l k
            rw [← HI.out, List.length_map] at hml
            have HTO := Lib.hid hto
            have HFT := Lib.hid hft
            have HS := Lib.hid hs
            have HOB := Lib.hid hobx
            clear hown hto hft hs hobx
            obtain ⟨wg, rfl⟩ : ∃ wg : World, wg = wr := ⟨_, rfl⟩
            have hzg := hB.size
            go_upto_block 6 with (first | (go_at_call 153; refine (fitted_any A5 N c5 (l.map (turnC k)) _ HLEN.out hl h0 HNear.out (Ho.out.rd.below (by go_grown))).mono ?_; rintro e wf ⟨v9, rfl, o9, hbn⟩; have hSz := bl_sz (bl_trans hB (by go_grown)) hbn; replace hB := bl_trans (bl_trans hB (by go_grown)) hbn; rw [HFT.out] at o9; have OF := Lib.hid o9; have hz9 := hbn.size; clear hbn))
            obtain ⟨A9, c9, rfl⟩ := OF.out.form
            rw [hln]
            rw [hln] at OF
            have HOF := Lib.hid (HO.out.bel famR_C hB)
            have hBf := HBr.out.trans (hB.mono HBr.out.size)
            have HRO := Lib.hid OF.out.rd
            have HLO := Lib.hid hln.symm
            have hzo := hB.size
            have Hhi := HO.out.2.1
            have HBf := Lib.hid hBf
            have hn8 : (its.length : Int) ≤ 8 := by omega
            obtain ⟨out, hout⟩ : ∃ out, out = its.map It.l := ⟨_, rfl⟩
            have hol : out.length = its.length := by rw [hout, List.length_map]
            have HRD := Lib.hid (show RdCC wf A3 out by rw [hout]; exact InS.rd (fun h => by obtain ⟨A, c, rfl⟩ := h.1.1; exact ⟨A, c, rfl, h.rd⟩) HOF.out.inS)
            rw [← hout] at HI HS
            have Hout := Lib.hid hout
            obtain ⟨m, hm⟩ : ∃ m, m = its.length := ⟨_, rfl⟩
            rw [← hm] at hn8 hol HO HOF hml ⊢
            have Hm := Lib.hid hm
            have hil : (indicesL own).length ≤ 1048576 := by rw [indicesL_len, hln]; exact hl
            clear hBf hout hm hB2
            go_cut [8] from 49 to 63 (fun q wr' => ∃ p : Nat, p ≤ m ∧ q = .int .i64 p ∧ Hid (∀ j y, out[j]? = some y → p ≤ j → ltT own y) ∧ Hid (∀ y, 0 < p → out[p - 1]? = some y → lexB (indicesL own) (indicesL y) = false) ∧ Below wf.heap.size wf wr')
            case first =>
              go_wp2_with fail
              go_loopw [8] (fun q wr' => ∃ p : Nat, p ≤ m ∧ q = .int .i64 p ∧ Hid (∀ j y, out[j]? = some y → p ≤ j → ltT own y) ∧ Below wf.heap.size wf wr') (fun q _ => (intOf q).toNat)
              case atStart => exact ⟨m, Nat.le_refl _, rfl, Lib.hid (fun j y hj hmj => by have := (List.getElem?_eq_some_iff.1 hj).1; omega), Below.refl _ _⟩
              case round =>
                obtain ⟨p, hp, rfl, HA, hB3⟩ := hrel
                clear hB
                have hB := hB3
                clear hB3
                rcases Nat.eq_zero_or_pos p with h0 | h0
                · subst h0
                  have hd : decide ((0 : Int) < ((0 : Nat) : Int)) = false := by decide
                  go_wp2_with fail
                  (refine wp_region_quiet_bel (by kernel_rfl) (by kernel_rfl) ?_; (repeat (first | go_big_quiet_step (fail) | quiet_step (fail))); refine wpQuiet_nil ?_; intro wq hw0; obtain ⟨⟨_, hbq⟩, hw1⟩ := hw0; subst hw1; try dsimp only)
                  go_wp2_with fail
                  go_meet
                  exact ⟨0, by omega, rfl, HA, Lib.hid (fun y h => absurd h (by omega)), bl_trans hB hbq⟩
                · obtain ⟨i, rfl⟩ : ∃ i, p = i + 1 := ⟨p - 1, by omega⟩
                  have hd : decide ((0 : Int) < ((i + 1 : Nat) : Int)) = true := by simp <;> omega
                  obtain ⟨b7, off7, y, A7, c7, rfl, hb7, hv7, _, hry, e7⟩ := HRD.out.at_ (k := i) (by omega)
                  have hyl := HS.out.len y (List.mem_of_getElem? hv7)
                  rw [hyl] at e7
                  have HLY := Lib.hid hyl.symm
                  have HRY := Lib.hid hry
                  have E7 := Lib.hid e7
                  replace e7 := (hB.cell (p := ⟨b7, off7 + i, none⟩) hb7).trans e7
                  have HV7 := Lib.hid hv7
                  have HL2 := Lib.hid (show (indicesL own).length = (indicesL y).length by rw [indicesL_len, indicesL_len, hln, hyl])
                  have hwi : IntKind.i64.wrap (((i + 1 : Nat) : Int) - 1) = (i : Int) := by rw [show (((i + 1 : Nat) : Int) - 1) = (i : Int) by omega]; exact IntWalk.i64_in _ (by omega)
                  have hwj : IntKind.i64.wrap (i : Int) = (i : Int) := IntWalk.i64_in _ (by omega)
                  have hwk : IntKind.i64.wrap ((i : Int) + 1 - 1) = (i : Int) := by rw [show ((i : Int) + 1 - 1) = (i : Int) by omega]; exact hwj
                  have hi0 : (0 : Int) ≤ (i : Int) := by omega
                  have him : (i : Int) < (m : Int) := by omega
                  have him2 : i < m := by omega
                  clear hyl hry hv7 h0
                  cases hg : lexB (indicesL own) (indicesL y)
                  · have HG := Lib.hid hg
                    clear hg
                    go_wp2_with fail
                    go_region_held3 (fun w' => w'.cell? ⟨b7, off7 + i, none⟩ = some (.slice A7 N c7)) (exact ((bl_trans hB (by go_grown)).cell (p := ⟨b7, off7 + i, none⟩) hb7).trans E7.out) (first | (go_at_call 155; (with_reducible refine (indices_any A9 N c9 own _ HLO.out hl (HRO.out.below (bl_trans hB (by go_grown)))).mono ?_); rintro e wn ⟨v1, rfl, o1, hbn⟩; have hSz := bl_sz (bl_trans hB (by go_grown)) hbn; replace hB := bl_trans (bl_trans hB (by go_grown)) hbn; obtain ⟨⟨A11, c11, rfl⟩, _⟩ := id o1; have O1 := Lib.hid o1.rd; clear o1; (try replace O2 := Lib.hid (O2.out.below (bl_trans (by go_grown) hbn))); clear hbn) | (go_at_call 155; (with_reducible refine (indices_any A7 N c7 y _ HLY.out hl (HRY.out.below (bl_trans hB (by go_grown)))).mono ?_); rintro e wn ⟨v2, rfl, o2, hbn⟩; have hSz := bl_sz (bl_trans hB (by go_grown)) hbn; replace hB := bl_trans (bl_trans hB (by go_grown)) hbn; obtain ⟨⟨A12, c12, rfl⟩, _⟩ := id o2; have O2 := Lib.hid o2.rd; clear o2; (try replace O1 := Lib.hid (O1.out.below (bl_trans (by go_grown) hbn))); clear hbn) | (go_at_call 154; refine (isLess_any A11 A12 _ _ c11 c12 (indicesL own) (indicesL y) _ rfl rfl HL2.out hil (O1.out.below (by go_grown)) (O2.out.below (by go_grown))).mono ?_; rintro e wn ⟨rfl, hbn⟩; have hSz := bl_sz (bl_trans hB (by go_grown)) hbn; replace hB := bl_trans (bl_trans hB (by go_grown)) hbn; rw [HG.out]; clear hbn))
                    all_goals (go_wp2_with fail; go_meet; exact ⟨i + 1, by omega, rfl, HA, Lib.hid (fun y' _ hy' => by rw [show i + 1 - 1 = i by omega, HV7.out] at hy'; injection hy' with hy'; rw [← hy']; exact HG.out), hB⟩)
                  · have HG := Lib.hid hg
                    have HA2 := Lib.hid (show ∀ j z, out[j]? = some z → i ≤ j → ltT own z from fun j z hj hij => by
                      by_cases e : j = i
                      · subst e; rw [HV7.out] at hj; injection hj with hj; rw [← hj]; exact hg
                      · exact HA.out j z hj (by omega))
                    clear hg
                    go_wp2_with fail
                    go_region_held3 (fun w' => w'.cell? ⟨b7, off7 + i, none⟩ = some (.slice A7 N c7)) (exact ((bl_trans hB (by go_grown)).cell (p := ⟨b7, off7 + i, none⟩) hb7).trans E7.out) (first | (go_at_call 155; (with_reducible refine (indices_any A9 N c9 own _ HLO.out hl (HRO.out.below (bl_trans hB (by go_grown)))).mono ?_); rintro e wn ⟨v1, rfl, o1, hbn⟩; have hSz := bl_sz (bl_trans hB (by go_grown)) hbn; replace hB := bl_trans (bl_trans hB (by go_grown)) hbn; obtain ⟨⟨A11, c11, rfl⟩, _⟩ := id o1; have O1 := Lib.hid o1.rd; clear o1; (try replace O2 := Lib.hid (O2.out.below (bl_trans (by go_grown) hbn))); clear hbn) | (go_at_call 155; (with_reducible refine (indices_any A7 N c7 y _ HLY.out hl (HRY.out.below (bl_trans hB (by go_grown)))).mono ?_); rintro e wn ⟨v2, rfl, o2, hbn⟩; have hSz := bl_sz (bl_trans hB (by go_grown)) hbn; replace hB := bl_trans (bl_trans hB (by go_grown)) hbn; obtain ⟨⟨A12, c12, rfl⟩, _⟩ := id o2; have O2 := Lib.hid o2.rd; clear o2; (try replace O1 := Lib.hid (O1.out.below (bl_trans (by go_grown) hbn))); clear hbn) | (go_at_call 154; refine (isLess_any A11 A12 _ _ c11 c12 (indicesL own) (indicesL y) _ rfl rfl HL2.out hil (O1.out.below (by go_grown)) (O2.out.below (by go_grown))).mono ?_; rintro e wn ⟨rfl, hbn⟩; have hSz := bl_sz (bl_trans hB (by go_grown)) hbn; replace hB := bl_trans (bl_trans hB (by go_grown)) hbn; rw [HG.out]; clear hbn))
                    all_goals (go_wp2_with fail; go_roundw; (case rel => exact ⟨i, by omega, by go_num, HA2, hB⟩); (case measure => simp [intOf]))
            case rest =>
              obtain ⟨p, hp, rfl, HA, HL, hB3⟩ := hcut
              clear hB
              have hB := hB3
              clear hB3
              obtain ⟨wo2, rfl⟩ : ∃ wo2 : World, wo2 = wc := ⟨_, rfl⟩
              obtain ⟨e, he⟩ : ∃ e, e = (decide (0 < p) && (indicesL own == indicesL ((out[p - 1]?).getD []))) := ⟨_, rfl⟩
              go_upto_region 23 with fail
              go_cut [76] from 64 to 76 (fun q wr' => q = .bool e ∧ Below wf.heap.size wf wr')
              case first =>
                rcases Nat.eq_zero_or_pos p with h0 | h0
                · subst h0
                  have hd : decide ((0 : Int) < ((0 : Nat) : Int)) = false := by decide
                  have he2 : e = false := by rw [he]; rfl
                  have HE2 := Lib.hid he2
                  clear he he2
                  (refine wp_region_quiet_bel (by kernel_rfl) (by kernel_rfl) ?_; (repeat (first | go_big_quiet_step (fail) | quiet_step (fail))); refine wpQuiet_nil ?_; intro wq hw0; obtain ⟨⟨_, hbq⟩, hw1⟩ := hw0; subst hw1; try dsimp only)
                  go_wp2_with fail
                  go_meet
                  exact ⟨by rw [HE2.out], bl_trans hB hbq⟩
                · obtain ⟨i, rfl⟩ : ∃ i, p = i + 1 := ⟨p - 1, by omega⟩
                  have hd : decide ((0 : Int) < ((i + 1 : Nat) : Int)) = true := by simp <;> omega
                  obtain ⟨b7, off7, y, A7, c7, rfl, hb7, hv7, _, hry, e7⟩ := HRD.out.at_ (k := i) (by omega)
                  have hyl := HS.out.len y (List.mem_of_getElem? hv7)
                  rw [hyl] at e7
                  have HLY := Lib.hid hyl.symm
                  have HRY := Lib.hid hry
                  have E7 := Lib.hid e7
                  replace e7 := (hB.cell (p := ⟨b7, off7 + i, none⟩) hb7).trans e7
                  have HL2 := Lib.hid (show (indicesL own).length = (indicesL y).length by rw [indicesL_len, indicesL_len, hln, hyl])
                  have hwi : IntKind.i64.wrap (((i + 1 : Nat) : Int) - 1) = (i : Int) := by rw [show (((i + 1 : Nat) : Int) - 1) = (i : Int) by omega]; exact IntWalk.i64_in _ (by omega)
                  have hwj : IntKind.i64.wrap (i : Int) = (i : Int) := IntWalk.i64_in _ (by omega)
                  have hwk : IntKind.i64.wrap ((i : Int) + 1 - 1) = (i : Int) := by rw [show ((i : Int) + 1 - 1) = (i : Int) by omega]; exact hwj
                  have hi0 : (0 : Int) ≤ (i : Int) := by omega
                  have him : (i : Int) < (m : Int) := by omega
                  have him2 : i < m := by omega
                  have HG := Lib.hid (show (indicesL own == indicesL y) = e by rw [he, show i + 1 - 1 = i by omega, hv7]; simp)
                  clear hyl hry hv7 h0 he
                  go_region_held3 (fun w' => w'.cell? ⟨b7, off7 + i, none⟩ = some (.slice A7 N c7)) (exact ((bl_trans hB (by go_grown)).cell (p := ⟨b7, off7 + i, none⟩) hb7).trans E7.out) (first | (go_at_call 155; (with_reducible refine (indices_any A9 N c9 own _ HLO.out hl (HRO.out.below (bl_trans hB (by go_grown)))).mono ?_); rintro e wn ⟨v1, rfl, o1, hbn⟩; have hSz := bl_sz (bl_trans hB (by go_grown)) hbn; replace hB := bl_trans (bl_trans hB (by go_grown)) hbn; obtain ⟨⟨A11, c11, rfl⟩, _⟩ := id o1; have O1 := Lib.hid o1.rd; clear o1; (try replace O2 := Lib.hid (O2.out.below (bl_trans (by go_grown) hbn))); clear hbn) | (go_at_call 155; (with_reducible refine (indices_any A7 N c7 y _ HLY.out hl (HRY.out.below (bl_trans hB (by go_grown)))).mono ?_); rintro e wn ⟨v2, rfl, o2, hbn⟩; have hSz := bl_sz (bl_trans hB (by go_grown)) hbn; replace hB := bl_trans (bl_trans hB (by go_grown)) hbn; obtain ⟨⟨A12, c12, rfl⟩, _⟩ := id o2; have O2 := Lib.hid o2.rd; clear o2; (try replace O1 := Lib.hid (O1.out.below (bl_trans (by go_grown) hbn))); clear hbn) | (go_at_call 156; refine (sameInts_any A11 A12 _ _ c11 c12 (indicesL own) (indicesL y) _ rfl rfl HL2.out hil (O1.out.below (by go_grown)) (O2.out.below (by go_grown))).mono ?_; rintro e wn ⟨rfl, hbn⟩; have hSz := bl_sz (bl_trans hB (by go_grown)) hbn; replace hB := bl_trans (bl_trans hB (by go_grown)) hbn; rw [HG.out]; clear hbn))
                  all_goals (go_wp2_with fail; go_meet; exact ⟨rfl, hB⟩)
              case rest =>
                obtain ⟨rfl, hB4⟩ := hcut
                clear hB
                have hB := hB4
                clear hB4
                have hBF := HBf.out.trans (hB.mono HBf.out.size)
                have hwsz := HBf.out.size
                have hzw := HBr.out.size
                have hsz2 := hB.size
                have HOC := Lib.hid (HOF.out.bel famR_C hB)
                have HIC := Lib.hid ((OwC.inn OF.out).bel hB)
                cases he2 : e
                · rw [he2] at he
                  have hmap : (its.take p ++ (⟨.slice A9 N c9, own, wg.heap.size, wf.heap.size⟩ : It (List Cl)) :: its.drop p).map It.l = turnsTo l (k + 1) := by
                    rw [HTO.out, ← HI.out, ← ins_i HS.out hln HOB.out (by omega) HA.out (fun y h0 hy => ⟨HL.out y h0 hy, fun ee => by
                      rw [hy] at he
                      have h0' : decide (0 < p) = true := decide_eq_true h0
                      rw [h0'] at he
                      simp [ee] at he⟩), Hout.out]
                    simp
                  have HMAP := Lib.hid hmap
                  have hus := HOC.out.2.2.1
                  rw [← Hm.out] at hus
                  have hone : ∀ v ∈ its.map It.u, v.oneCell' = true := fun v hv => by
                    obtain ⟨x, hx, rfl⟩ := List.mem_map.1 hv
                    exact famR_C.one (HOC.out.2.2.2.1 x hx).1
                  have hul : (its.map It.u).length = m := by rw [List.length_map]; exact Hm.out.symm
                  have HUS := Lib.hid hus
                  have hm8 : m ≤ 1048576 := by omega
                  have hBz := hBF.size
                  clear hmap hus he he2
                  go_wp2_with (at_builtin; refine wpList_apZ rfl (.tmp 77) (.tmp 78) rfl w.heap.size (.slice A3 m c3) m (its.map It.u) (.slice none 0 0) rfl rfl rfl HUS.out hBz hm8 ?_; intro g cap rr w1 hgB hcl hcm hcs hblk hgr hat hb1)
                  have hB1 := hb1 _ hBF
                  have Hblk := Lib.hid hblk
                  have hw1z := hgr.size
                  have hgw := hblk.lt
                  clear hb1
                  have hwr1 : IntKind.i64.wrap ((p : Int) + 1) = (p : Int) + 1 := IntWalk.i64_in _ (by omega)
                  have ht1 : ((p : Int) + 1).toNat = p + 1 := by omega
                  have ht2 : (0 : Int) ≤ (p : Int) + 1 := by omega
                  have ht3 : p + 1 ≤ m + 1 := by omega
                  have ht4 : p ≤ m + 1 := by omega
                  have ht5 : (p : Int) + 1 ≤ (m : Int) + 1 := by omega
                  have ht6 : (p : Int) ≤ (m : Int) + 1 := by omega
                  by_cases hpm : p < m
                  · have hpu : p < (its.map It.u).length := by omega
                    have hc1 : ¬ cap = p + 1 := by omega
                    have hc2 : ¬ cap = p := by omega
                    obtain ⟨⟨y0, hy0⟩, hf0, hbF, hfar, hzF⟩ := shift_fin (u := .slice A9 N c9) (hblk.drew) hpu
                    have HFIN := Lib.hid (InL.put famR_C HOC.out HIC.out (by omega) (by omega) (by omega) (by omega) hgB (by rw [← Hm.out]; exact hcl) hcm hcs hgr hat hbF hfar hzF)
                    have HBF := Lib.hid (bl_set (bl_setCells (bl_drew hB1) hgB (p + 1) ((its.map It.u).drop p)) (p := ⟨g, p, none⟩) hgB (.slice A9 N c9))
                    clear hbF hfar hzF
                    go_region_held3 (fun _ => True) (trivial) (first | (refine step_copy_ (by rfl) (.tmp 83) (.tmp 86) 94 (by rfl) (by rfl) (by rfl) (copy_up (z := .slice none 0 0) Hblk.out.drew hone hpu _ _ _ (by omega) (by omega) (by omega) (by omega)) ?_; skip))
                    all_goals (go_wp2_with fail; go_roundw; (case rel => exact ⟨k + 1, its.take p ++ ⟨.slice A9 N c9, own, wg.heap.size, wf.heap.size⟩ :: its.drop p, by omega, by go_num, by rw [Hm.out]; exact HFIN.out, HMAP.out, HBF.out⟩); (case measure => simp [intOf]; omega))
                  · have hpm2 : p = (its.map It.u).length := by omega
                    obtain ⟨⟨y0, hy0⟩, hf0, hbF, hfar, hzF⟩ := end_fin (u := .slice A9 N c9) (hblk.drew) hpm2
                    have HFIN := Lib.hid (InL.put famR_C HOC.out HIC.out (by omega) (by omega) (by omega) (by omega) hgB (by rw [← Hm.out]; exact hcl) hcm hcs hgr hat hbF hfar hzF)
                    have HBF := Lib.hid (bl_set (bl_drew hB1) (p := ⟨g, p, none⟩) hgB (.slice A9 N c9))
                    have HPM := Lib.hid (show p = m by omega)
                    clear hbF hfar hzF hpm hpm2
                    by_cases hc1 : cap = p + 1
                    · subst hc1
                      have hc2 : ¬ p + 1 = p := by omega
                      go_region_held3 (fun _ => True) (trivial) (first | (refine step_copy_ (by rfl) (.tmp 83) (.tmp 86) 94 (by rfl) (by rfl) (by rfl) (run_copy_zero (P := Try.prog) _ 94 94 _ 28 1 _ _ _ _ _ _ Try.underlying94 info_szCS (Nat.le_antisymm (Nat.le_trans (Nat.min_le_right _ _) (by have := HPM.out; omega)) (Nat.zero_le _))) ?_; skip))
                      all_goals (go_wp2_with fail; go_roundw; (case rel => exact ⟨k + 1, its.take p ++ ⟨.slice A9 N c9, own, wg.heap.size, wf.heap.size⟩ :: its.drop p, by omega, by go_num, by rw [Hm.out]; exact HFIN.out, HMAP.out, HBF.out⟩); (case measure => simp [intOf]; omega))
                    · have hc2 : ¬ cap = p := by have := HPM.out; omega
                      go_region_held3 (fun _ => True) (trivial) (first | (refine step_copy_ (by rfl) (.tmp 83) (.tmp 86) 94 (by rfl) (by rfl) (by rfl) (run_copy_zero (P := Try.prog) _ 94 94 _ 28 1 _ _ _ _ _ _ Try.underlying94 info_szCS (Nat.le_antisymm (Nat.le_trans (Nat.min_le_right _ _) (by have := HPM.out; omega)) (Nat.zero_le _))) ?_; skip))
                      all_goals (go_wp2_with fail; go_roundw; (case rel => exact ⟨k + 1, its.take p ++ ⟨.slice A9 N c9, own, wg.heap.size, wf.heap.size⟩ :: its.drop p, by omega, by go_num, by rw [Hm.out]; exact HFIN.out, HMAP.out, HBF.out⟩); (case measure => simp [intOf]; omega))
                · rw [he2] at he
                  have hp0 : 0 < p := by
                    rcases Nat.eq_zero_or_pos p with h0 | h0
                    · subst h0; simp at he
                    · exact h0
                  have hpo : p - 1 < out.length := by omega
                  have hz : out[p - 1]? = some out[p - 1] := List.getElem?_eq_getElem hpo
                  rw [hz] at he
                  have hee : indicesL own = indicesL out[p - 1] := by simpa [hp0] using he
                  have HMAP := Lib.hid (show its.map It.l = turnsTo l (k + 1) by rw [HTO.out, ← HI.out, ins_eq HS.out hln HOB.out (List.getElem_mem hpo) hee]; exact Hout.out.symm)
                  clear he hee hz
                  go_wp2_with fail
                  go_roundw
                  case rel => exact ⟨k + 1, its, by omega, by go_num, HOC.out.wide (Nat.le_refl _) (by omega), HMAP.out, hBF⟩
                  case measure => simp [intOf]; omega
      · obtain rfl : k = 8 := by omega
        have HI2 := HI
        go_wp2_with fail
        go_ret
        exact ⟨_, rfl, by rw [Hrv.out, ← HI2.out]; exact HO.out.inS, hBr⟩
theorem nowL_box {l : List Cl} (h : Box l) (hn : l.Nodup) (h0 : l ≠ []) : ∀ k ≤ 8, Box (nowL l k) ∧ (nowL l k).length = l.length := by
  intro k hk
  rcases k with _ | k
  · exact ⟨h, rfl⟩
  · rw [nowL_turn hn h0 k (by omega)]; exact ⟨turnL_box h _, turnL_len l _⟩
theorem nowL_near {l : List Cl} (h : Box l) (b : Bool) : Near (l.map (if b then mirC else rotC)) ∧ ∀ d ∈ l.map (if b then mirC else rotC), d.1 - lowX (l.map (if b then mirC else rotC)) ≤ 7 := by
  have key : ∀ k, Near (l.map (turnC k)) ∧ ∀ d ∈ l.map (turnC k), d.1 - lowX (l.map (turnC k)) ≤ 7 := fun k => by
    have h1 := turn_near h k
    refine ⟨h1.1, fun d hd => ?_⟩
    have h2 : l.map (turnC k) ≠ [] := fun e => by rw [e] at hd; simp at hd
    obtain ⟨⟨e, he, ee⟩, _⟩ := low_at h2
    have := (h1.2 d hd e he).1
    omega
  cases b
  · have e : l.map rotC = l.map (turnC 1) := List.map_congr_left fun c _ => rfl
    have := key 1
    rw [← e] at this
    exact this
  · have e : l.map mirC = l.map (turnC 4) := List.map_congr_left fun c _ => rfl
    have := key 4
    rw [← e] at this
    exact this
set_option maxRecDepth 100000 in
set_option maxHeartbeats 1000000 in
theorem TurnsOfShape_s (A : Option Addr) (N c : Nat) (l : List Cl) (w : World) (hN : N = l.length) (hl : N ≤ 1048576) (hr : RdC w A l) :
    Calls Try.prog 97 #[.slice A N c] w fun e w' => ∃ v, e = .returned v ∧ OwCC w.heap.size w' v (turnsR l) ∧ Below w.heap.size w w' := by
  have HN := Lib.hid hN
  have hr' := Lib.hid hr
  have hB := bl_alloc (Below.refl w.heap.size w) (.cells #[] 28)
  have Ow0 := Lib.hid (OwCC.new_ (B := w.heap.size) (w := w) (Nat.le_refl _))
  cases c1 : shapeOk l
  · have hv := Lib.hid (show turnsR l = [] by unfold turnsR; rw [c1]; rfl)
    have C1 := Lib.hid c1
    clear hN hr c1
    go_enter Try.func97, Try.ntmps97
    go_wp2_with (go_at_call 95; refine (ShapeOk_s A N c l _ HN.out hl (hr'.out.below hB)).mono ?_; rintro e wn ⟨rfl, hbn⟩; have hSz := bl_sz (bl_trans hB (by go_grown)) hbn; replace hB := bl_trans (bl_trans hB (by go_grown)) hbn; rw [C1.out]; replace Ow0 := Lib.hid (Ow0.out.bel hbn); clear hbn)
    go_ret
    exact ⟨_, rfl, by rw [hv.out]; exact Ow0.out, hB⟩
  · have h5 := shapeOk_len c1
    rw [← hN] at h5
    have hst := shapeOk_strict c1
    have hne : l ≠ [] := fun e => by rw [e] at hN; simp at hN; omega
    have HBx := Lib.hid (show Box l from hst.ok)
    have HND := Lib.hid hst.nodup
    have HNE := Lib.hid hne
    have Hrv := Lib.hid (show turnsR l = turnsS l 8 by unfold turnsR; rw [c1, turnsS_eq hst.ok hst.nodup hne]; rfl)
    have C1 := Lib.hid c1
    clear hN hr c1 hst hne
    go_enter Try.func97, Try.ntmps97
    go_wp2_with (go_at_call 95; refine (ShapeOk_s A N c l _ HN.out hl (hr'.out.below hB)).mono ?_; rintro e wn ⟨rfl, hbn⟩; have hSz := bl_sz (bl_trans hB (by go_grown)) hbn; replace hB := bl_trans (bl_trans hB (by go_grown)) hbn; rw [C1.out]; replace Ow0 := Lib.hid (Ow0.out.bel hbn); clear hbn)
    go_loopw [3, 4, 5] (fun v u i wr => ∃ k : Nat, k ≤ 8 ∧ i = .int .i64 k ∧ (∃ g n c, v = .slice (some ⟨g, 0, none⟩) n c) ∧ OwCC w.heap.size wr v (turnsS l k) ∧ (∃ A4 c4, u = .slice A4 N c4 ∧ RdC wr A4 (nowL l k)) ∧ Below w.heap.size w wr) (fun _ _ i _ => 8 - (intOf i).toNat)
    case atStart => exact ⟨0, by omega, rfl, ⟨_, _, _, rfl⟩, Ow0.out, ⟨_, _, rfl, hr'.out.below hB⟩, hB⟩
    case round =>
      obtain ⟨k, hk, rfl, ⟨g, n, c3, rfl⟩, hown, ⟨A4, c4, rfl, hrn⟩, hBr⟩ := hrel
      obtain rfl := OwS.len hown
      clear Ow0 hB
      by_cases hlt : k < 8
      · have d8 : decide ((k : Int) < 8) = true := decide_eq_true (by omega)
        obtain ⟨out, hout⟩ : ∃ out, out = turnsS l k := ⟨_, rfl⟩
        obtain ⟨now, hnow⟩ : ∃ now, now = nowL l k := ⟨_, rfl⟩
        obtain ⟨f, hf⟩ : ∃ f, f = (if k = 4 then mirC else rotC) := ⟨_, rfl⟩
        have hs := (turnsS_srt HBx.out HND.out HNE.out k (by omega)).1
        have hb := nowL_box HBx.out HND.out HNE.out k (by omega)
        have hb2 := nowL_box HBx.out HND.out HNE.out (k + 1) (by omega)
        have hnx : nowL l (k + 1) = fitL (now.map f) := by rw [hnow, hf]; rfl
        have hts : turnsS l (k + 1) = insT out (fitL (now.map f)) := by rw [← hnx, hout]; rfl
        have hmm := turnsS_len l k
        rw [hnx] at hb2
        rw [← hout] at hs hown hmm ⊢
        rw [← hnow] at hb hrn
        rw [← HN.out] at hb hb2 hs
        have hnn := nowL_near hb.1 (decide (k = 4))
        have hfe : (if decide (k = 4) = true then mirC else rotC) = f := by rw [hf]; by_cases e : k = 4 <;> simp [e]
        rw [hfe] at hnn
        obtain ⟨m, hm⟩ : ∃ m, m = out.length := ⟨_, rfl⟩
        rw [← hm] at hown hmm ⊢
        have HM := Lib.hid hm
        have HO := Lib.hid hown
        have HRN := Lib.hid hrn
        have HNB := Lib.hid hb
        have HB2 := Lib.hid hb2
        have HNX := Lib.hid hnx
        have HTS := Lib.hid hts
        have HS := Lib.hid hs
        have HNN := Lib.hid hnn
        have HF := Lib.hid hf
        have HBr := Lib.hid hBr
        obtain ⟨wo, rfl⟩ : ∃ wo : World, wo = wr := ⟨_, rfl⟩
        have ho2 := Lib.hid (OwC.new_ (B := wo.heap.size) (w := wo) (Nat.le_refl _))
        have hB1 := bl_alloc (Below.refl wo.heap.size wo) (.cells #[] 35)
        clear hout hnow hf hs hb hb2 hnx hts hnn hfe hm hown hrn
        go_wp2_with fail
        go_loopw [6, 7] (fun v i wr => ∃ j : Nat, j ≤ N ∧ i = .int .i64 j ∧ OwC wo.heap.size wr v ((now.take j).map f) ∧ Below wo.heap.size wo wr) (fun _ i _ => N - (intOf i).toNat)
        case atStart => exact ⟨0, by omega, rfl, ho2.out, hB1⟩
        case round =>
          obtain ⟨j, hj, rfl, own, hB2⟩ := hrel
          clear ho2 hB1
          by_cases hjn : j < N
          · obtain ⟨b, off, x, y, rfl, hbl, hv, hd, g1, g2, c0o, c1o⟩ := HRN.out.at_ (k := j) (by have := HNB.out.2; omega)
            have c0 := (hB2.cell (p := ⟨b, off + j * 2, none⟩) hbl).trans c0o
            have c1 := (hB2.cell (p := ⟨b, off + j * 2 + 1, none⟩) hbl).trans c1o
            have C0 := Lib.hid c0o
            have C1o := Lib.hid c1o
            clear c0o c1o
            have hok := cellOk_iff.1 (HNB.out.1 _ (List.mem_of_getElem? hv))
            dsimp only at hok
            have Hsn := Lib.hid (take_map_snoc f hv)
            have Ho := Lib.hid own
            have hol : ((now.take j).map f).length ≤ 1048576 := by rw [List.length_map, List.length_take]; omega
            have hz2 : wo.heap.size ≤ wr.heap.size := hB2.size
            have HBz := Lib.hid hB2
            have HBr2 := Lib.hid (Below.refl wr.heap.size wr)
            clear hv hd own
            by_cases h4 : k = 4
            · have d4 : ((k : Int) == 4) = true := by simp; omega
              have hw0 : IntKind.i64.wrap (-x) = -x := IntWalk.i64_in _ (by omega)
              have Hfx := Lib.hid (show f (x, y) = (-x, y) by rw [HF.out, if_pos h4]; rfl)
              clear h4
              go_wp2_with fail
              go_region_held3 (fun w' => w'.cell? ⟨b, off + j * 2, none⟩ = some (.int .i64 x) ∧ w'.cell? ⟨b, off + j * 2 + 1, none⟩ = some (.int .i64 y)) (go_keep) ((refine step_atCd (by rfl) (.tmp 29) (.tmp 42) (by rfl) wo.heap.size _ _ (-x) y (by rfl) (by rfl) Ho.out hz2 hol ⟨by omega, by omega⟩ ⟨by omega, by omega⟩ ?_; intro v' w1 o1 b1 gr1 s1; have HB1 := Lib.hid (b1 _ HBz.out); have O1 := Lib.hid o1; have e0 := (HB1.out.cell (p := ⟨b, off + j * 2, none⟩) hbl).trans C0.out; have e1 := (HB1.out.cell (p := ⟨b, off + j * 2 + 1, none⟩) hbl).trans C1o.out; clear o1 b1 gr1))
              go_wp2_with fail
              go_roundw
              case rel => exact ⟨j + 1, by omega, by go_num, by rw [Hsn.out, Hfx.out]; exact O1.out, HB1.out⟩
              case measure => simp [intOf]; omega
            · have d4 : ((k : Int) == 4) = false := by simp; omega
              have hw0 : IntKind.i64.wrap (-y) = -y := IntWalk.i64_in _ (by omega)
              have Hfx := Lib.hid (show f (x, y) = (-y, x) by rw [HF.out, if_neg h4]; rfl)
              clear h4
              go_wp2_with fail
              go_region_held3 (fun w' => w'.cell? ⟨b, off + j * 2, none⟩ = some (.int .i64 x) ∧ w'.cell? ⟨b, off + j * 2 + 1, none⟩ = some (.int .i64 y)) (go_keep) ((refine step_atCd (by rfl) (.tmp 44) (.tmp 57) (by rfl) wo.heap.size _ _ (-y) x (by rfl) (by rfl) Ho.out hz2 hol ⟨by omega, by omega⟩ ⟨by omega, by omega⟩ ?_; intro v' w1 o1 b1 gr1 s1; have HB1 := Lib.hid (b1 _ HBz.out); have O1 := Lib.hid o1; have e0 := (HB1.out.cell (p := ⟨b, off + j * 2, none⟩) hbl).trans C0.out; have e1 := (HB1.out.cell (p := ⟨b, off + j * 2 + 1, none⟩) hbl).trans C1o.out; clear o1 b1 gr1))
              go_wp2_with fail
              go_roundw
              case rel => exact ⟨j + 1, by omega, by go_num, by rw [Hsn.out, Hfx.out]; exact O1.out, HB1.out⟩
              case measure => simp [intOf]; omega
          · have htk : now.take j = now := List.take_of_length_le (by have := HNB.out.2; omega)
            rw [htk] at own
            obtain ⟨A6, c6, rfl⟩ := own.form
            have hlen : (now.map f).length = N := by rw [List.length_map]; exact HNB.out.2
            rw [hlen] at own ⊢
            have Ho := Lib.hid own
            have HLEN := Lib.hid hlen.symm
            have h0 : 0 < N := by omega
            clear own hlen htk
            have hB := hB2
            obtain ⟨own, hown⟩ : ∃ own, own = fitL (now.map f) := ⟨_, rfl⟩
            rw [← hown] at HB2 HNX HTS
            have hln : own.length = N := HB2.out.2
            have HFT := Lib.hid hown.symm
            have HOB := Lib.hid HB2.out.1
            clear hown
            obtain ⟨wg, rfl⟩ : ∃ wg : World, wg = wr := ⟨_, rfl⟩
            go_upto_block 4 with (first | (go_at_call 177; refine (l29Fit_any A6 N c6 (now.map f) _ HLEN.out hl h0 HNN.out.1 HNN.out.2 (Ho.out.rd.below (by go_grown))).mono ?_; rintro e wf ⟨v9, rfl, o9, hbn⟩; have hSz := bl_sz (bl_trans hB (by go_grown)) hbn; replace hB := bl_trans (bl_trans hB (by go_grown)) hbn; rw [HFT.out] at o9; have OF := Lib.hid o9; have hz9 := hbn.size; clear hbn))
            obtain ⟨A9, c9, rfl⟩ := OF.out.form
            rw [hln]
            rw [hln] at OF
            have hzo := hB.size
            have hBf := HBr.out.trans (hB.mono HBr.out.size)
            have HOF := Lib.hid (HO.out.bel hB)
            have HRD := Lib.hid HOF.out.rd
            have HRO := Lib.hid OF.out.rd
            have HLO := Lib.hid hln.symm
            have HBf := Lib.hid hBf
            have hol : out.length = m := HM.out.symm
            have HOL := Lib.hid hol
            clear hBf hB2 hol
            go_cut [8] from 61 to 75 (fun q wr' => ∃ p : Nat, p ≤ m ∧ q = .int .i64 p ∧ Hid (∀ j y, out[j]? = some y → j < p → ltT y own) ∧ Hid (∀ y, out[p]? = some y → lexB (indicesL y) (indicesL own) = false) ∧ Below wf.heap.size wf wr')
            case first =>
              go_wp2_with fail
              go_loopw [8] (fun q wr' => ∃ p : Nat, p ≤ m ∧ q = .int .i64 p ∧ Hid (∀ j y, out[j]? = some y → j < p → ltT y own) ∧ Below wf.heap.size wf wr') (fun q _ => m - (intOf q).toNat)
              case atStart => exact ⟨0, by omega, rfl, Lib.hid (fun j y _ h => absurd h (by omega)), Below.refl _ _⟩
              case round =>
                obtain ⟨p, hp, rfl, HA, hB3⟩ := hrel
                clear hB
                have hB := hB3
                clear hB3
                by_cases hpm : p < m
                · obtain ⟨b7, off7, y, A7, c7, hA7, hb7, hv7, _, hry, e7⟩ := HRD.out.at_ (k := p) (by have := HM.out; omega)
                  injection hA7 with hA7
                  injection hA7 with hA7 hA8
                  subst hA7
                  subst hA8
                  rw [Nat.zero_add] at e7
                  have hyl := HS.out.len y (List.mem_of_getElem? hv7)
                  rw [hyl] at e7
                  have HLY := Lib.hid hyl.symm
                  have HRY := Lib.hid hry
                  replace e7 := (hB.cell (p := ⟨g, p, none⟩) hb7).trans e7
                  have HV7 := Lib.hid hv7
                  obtain ⟨q, hq⟩ : ∃ q, q = cmpL y own := ⟨_, rfl⟩
                  clear hyl hry hv7
                  cases hg : lexB (indicesL y) (indicesL own)
                  · have hq0 : 0 ≤ q := by rw [hq]; unfold cmpL; rw [hg, if_neg (by simp)]; split <;> omega
                    have d1 : decide (q < 0) = false := decide_eq_false (by omega)
                    have HQ := Lib.hid hq
                    have HG := Lib.hid hg
                    clear hg hq
                    go_wp2_with (first | (go_at_call 182; refine (l29Compare_any A7 A9 N N c7 c9 y own _ HLY.out HLO.out rfl hl (HRY.out.below (bl_trans hB (by go_grown))) (HRO.out.below (bl_trans hB (by go_grown)))).mono ?_; rintro e wn ⟨rfl, hbn⟩; have hSz := bl_sz (bl_trans hB (by go_grown)) hbn; replace hB := bl_trans (bl_trans hB (by go_grown)) hbn; rw [← HQ.out]; clear hbn))
                    go_meet
                    exact ⟨p, by omega, rfl, HA, Lib.hid (fun y' hy' => by rw [HV7.out] at hy'; injection hy' with hy'; rw [← hy']; exact HG.out), hB⟩
                  · have hq0 : q = -1 := by rw [hq]; unfold cmpL; rw [hg, if_pos rfl]
                    have HQ := Lib.hid (show cmpL y own = -1 by rw [← hq]; exact hq0)
                    have HA2 := Lib.hid (show ∀ j z, out[j]? = some z → j < p + 1 → ltT z own from fun j z hj hij => by
                      by_cases e : j = p
                      · subst e; rw [HV7.out] at hj; injection hj with hj; rw [← hj]; exact hg
                      · exact HA.out j z hj (by omega))
                    clear hg hq hq0
                    go_wp2_with (first | (go_at_call 182; refine (l29Compare_any A7 A9 N N c7 c9 y own _ HLY.out HLO.out rfl hl (HRY.out.below (bl_trans hB (by go_grown))) (HRO.out.below (bl_trans hB (by go_grown)))).mono ?_; rintro e wn ⟨rfl, hbn⟩; have hSz := bl_sz (bl_trans hB (by go_grown)) hbn; replace hB := bl_trans (bl_trans hB (by go_grown)) hbn; rw [HQ.out]; clear hbn))
                    go_roundw
                    case rel => exact ⟨p + 1, by omega, by go_num, HA2, hB⟩
                    case measure => simp [intOf]; omega
                · obtain rfl : p = m := by omega
                  go_wp2_with fail
                  go_meet
                  exact ⟨p, by omega, rfl, HA, Lib.hid (fun y' hy' => by have := (List.getElem?_eq_some_iff.1 hy').1; have := HOL.out; omega), hB⟩
            case rest =>
              obtain ⟨p, hp, rfl, HA, HL, hB3⟩ := hcut
              clear hB
              have hB := hB3
              clear hB3
              obtain ⟨wo2, rfl⟩ : ∃ wo2 : World, wo2 = wc := ⟨_, rfl⟩
              obtain ⟨e, he⟩ : ∃ e, e = (decide (p < m) && (indicesL ((out[p]?).getD []) == indicesL own)) := ⟨_, rfl⟩
              go_upto_region 19 with fail
              go_cut [88] from 76 to 88 (fun q wr' => q = .bool e ∧ Below wf.heap.size wf wr')
              case first =>
                by_cases hpm : p < m
                · obtain ⟨b7, off7, y, A7, c7, hA7, hb7, hv7, _, hry, e7⟩ := HRD.out.at_ (k := p) (by have := HM.out; omega)
                  injection hA7 with hA7
                  injection hA7 with hA7 hA8
                  subst hA7
                  subst hA8
                  rw [Nat.zero_add] at e7
                  have hyl := HS.out.len y (List.mem_of_getElem? hv7)
                  rw [hyl] at e7
                  have HLY := Lib.hid hyl.symm
                  have HRY := Lib.hid hry
                  replace e7 := (hB.cell (p := ⟨g, p, none⟩) hb7).trans e7
                  have hlf := HL.out y hv7
                  have he2 : e = (indicesL y == indicesL own) := by rw [he, hv7, decide_eq_true hpm]; rfl
                  obtain ⟨q, hq⟩ : ∃ q, q = cmpL y own := ⟨_, rfl⟩
                  have hq2 : (q == 0) = e := by
                    rw [hq, he2]; unfold cmpL; rw [hlf, if_neg (by simp)]
                    cases hh : (indicesL y == indicesL own)
                    · rw [if_neg (by simp)]; rfl
                    · rw [if_pos rfl]; rfl
                  have HQ := Lib.hid hq
                  clear hyl hry hv7 he he2 hlf hq
                  go_wp2_with (first | (go_at_call 182; refine (l29Compare_any A7 A9 N N c7 c9 y own _ HLY.out HLO.out rfl hl (HRY.out.below (bl_trans hB (by go_grown))) (HRO.out.below (bl_trans hB (by go_grown)))).mono ?_; rintro e wn ⟨rfl, hbn⟩; have hSz := bl_sz (bl_trans hB (by go_grown)) hbn; replace hB := bl_trans (bl_trans hB (by go_grown)) hbn; rw [← HQ.out]; clear hbn))
                  go_meet
                  exact ⟨rfl, hB⟩
                · have he2 : e = false := by rw [he, decide_eq_false hpm]; rfl
                  have HE2 := Lib.hid he2
                  clear he he2
                  go_wp2_with fail
                  go_meet
                  exact ⟨by rw [HE2.out], hB⟩
              case rest =>
                obtain ⟨rfl, hB3⟩ := hcut
                clear hB
                have hB := hB3
                clear hB3
                obtain ⟨wx, rfl⟩ : ∃ wx : World, wx = wc := ⟨_, rfl⟩
                have HBX := Lib.hid hB
                have hzx := hB.size
                cases he2 : e
                · have HMAP := Lib.hid (show out.take p ++ [own] ++ out.drop p = turnsS l (k + 1) by
                    rw [HTS.out, ← ins_s HS.out hln HOB.out HA.out (fun y hy => ⟨HL.out y hy, fun ee => by
                      have hpm : p < m := by have := (List.getElem?_eq_some_iff.1 hy).1; have := HOL.out; omega
                      rw [hy, decide_eq_true hpm, he2] at he
                      simp [ee] at he⟩)]
                    simp)
                  clear he he2
                  have hcap := HOF.out.cap
                  have hpc : p ≤ c3 := by omega
                  have hm8 : m ≤ 1048576 := by omega
                  have RO := Lib.hid (HOF.out.rdO.below hB)
                  have ho0 := Lib.hid (OwCC.new_ (B := wx.heap.size) (w := wx) (Nat.le_refl _))
                  have HRO2 := Lib.hid (RO.out.take_ (k := p) (by have := HOL.out; omega))
                  have hBx := bl_alloc (Below.refl wx.heap.size wx) (.cells #[] 28)
                  have hpl : (out.take p).length = p := by rw [List.length_take]; have := HOL.out; omega
                  have HPL := Lib.hid hpl
                  clear hpl
                  have HU := Lib.hid (((OF.out.mono (Nat.zero_le _)).bel HBX.out).bel hBx)
                  have HPL2 := Lib.hid (show (out.take p).length ≤ 1048576 by have := HPL.out; omega)
                  have HPL4 := Lib.hid (show (out.take p ++ [own]).length = p + 1 by rw [List.length_append, HPL.out]; rfl)
                  have HPL3 := Lib.hid (show (out.take p ++ [own]).length ≤ 1048576 by have := HPL4.out; omega)
                  have HDL := Lib.hid (show (out.drop p).length = m - p by rw [List.length_drop, HOL.out])
                  have HDL2 := Lib.hid (show (out.drop p).length ≤ 1048576 by have := HDL.out; omega)
                  have HNN2 := Lib.hid (show turnsS l (k + 1) ≠ [] by rw [← HMAP.out]; simp)
                  by_cases hc : c3 = p
                  · obtain rfl : p = m := by omega
                    subst hc
                    have HRO3 := Lib.hid (show RdO wx (some ⟨g, 0, none⟩) (out.drop c3) by rw [List.drop_eq_nil_of_le (by have := HOL.out; omega)]; exact RdO.nil_ _ _)
                    go_wp2_with (first | (at_builtin; refine wpList_apsCC rfl (.tmp 89) (.tmp 92) rfl wx.heap.size _ [] (out.take c3) (some ⟨g, 0, none⟩) c3 rfl c3 rfl ho0.out (HRO2.out.below hBx) HPL.out.symm hBx.size (by simp) (by have := HPL.out; omega) ?_; intro v1 w1 o1 b1 f1; have hB1 := b1 _ hBx; have hz1 := hB1.size; have U1 := Lib.hid (f1 HU.out); rw [List.nil_append] at o1; obtain ⟨A1, c1, rfl⟩ := OwCC.form o1; rw [HPL.out] at o1 ⊢; have O1 := Lib.hid o1; clear o1 f1) | (at_builtin; refine wpList_ap1CC rfl (.tmp 94) (.tmp 96) rfl wx.heap.size _ (out.take c3) _ own rfl rfl O1.out U1.out hz1 HPL2.out ?_; intro v2 w2 o2 b2 g2 s2; have hB2 := b2 _ hB1; have hz2 := hB2.size; obtain ⟨A2, c2, rfl⟩ := OwCC.form o2; rw [HPL4.out] at o2 ⊢; have O2 := Lib.hid o2; clear o2 g2) | (at_builtin; refine wpList_apsCC rfl (.tmp 98) (.tmp 101) rfl wx.heap.size _ (out.take c3 ++ [own]) (out.drop c3) (some ⟨g, 0, none⟩) _ rfl _ rfl O2.out (HRO3.out.below hB2) (by have := HDL.out; omega) hz2 HPL3.out HDL2.out ?_; intro v3 w3 o3 b3 f3; have hB3 := b3 _ hB2; rw [HMAP.out] at o3; have O3 := Lib.hid o3; clear o3 f3))
                    go_roundw
                    case rel =>
                      obtain ⟨g3, d3, hv3, _⟩ := O3.out.blk' HNN2.out
                      exact ⟨k + 1, by omega, by go_num, ⟨_, _, _, hv3⟩, O3.out.mono (by have := HBf.out.size; omega), ⟨_, _, rfl, by rw [HNX.out]; exact (HRO.out.below (HBX.out)).below hB3⟩, HBf.out.trans ((HBX.out.trans (hB3.mono hzx)).mono HBf.out.size)⟩
                    case measure => simp [intOf]; omega
                  · have HRO3 := Lib.hid (RO.out.cut_ (k := p) (cap := c3) (by have := HOL.out; omega) (by have := HOL.out; omega) hc)
                    go_wp2_with (first | (at_builtin; refine wpList_apsCC rfl (.tmp 89) (.tmp 92) rfl wx.heap.size _ [] (out.take p) (some ⟨g, 0, none⟩) c3 rfl p rfl ho0.out (HRO2.out.below hBx) HPL.out.symm hBx.size (by simp) (by have := HPL.out; omega) ?_; intro v1 w1 o1 b1 f1; have hB1 := b1 _ hBx; have hz1 := hB1.size; have U1 := Lib.hid (f1 HU.out); rw [List.nil_append] at o1; obtain ⟨A1, c1, rfl⟩ := OwCC.form o1; rw [HPL.out] at o1 ⊢; have O1 := Lib.hid o1; clear o1 f1) | (at_builtin; refine wpList_ap1CC rfl (.tmp 94) (.tmp 96) rfl wx.heap.size _ (out.take p) _ own rfl rfl O1.out U1.out hz1 HPL2.out ?_; intro v2 w2 o2 b2 g2 s2; have hB2 := b2 _ hB1; have hz2 := hB2.size; obtain ⟨A2, c2, rfl⟩ := OwCC.form o2; rw [HPL4.out] at o2 ⊢; have O2 := Lib.hid o2; clear o2 g2) | (at_builtin; refine wpList_apsCC rfl (.tmp 98) (.tmp 101) rfl wx.heap.size _ (out.take p ++ [own]) (out.drop p) (some ⟨g, p, none⟩) _ rfl _ rfl O2.out (HRO3.out.below hB2) (by have := HDL.out; omega) hz2 HPL3.out HDL2.out ?_; intro v3 w3 o3 b3 f3; have hB3 := b3 _ hB2; rw [HMAP.out] at o3; have O3 := Lib.hid o3; clear o3 f3))
                    go_roundw
                    case rel =>
                      obtain ⟨g3, d3, hv3, _⟩ := O3.out.blk' HNN2.out
                      exact ⟨k + 1, by omega, by go_num, ⟨_, _, _, hv3⟩, O3.out.mono (by have := HBf.out.size; omega), ⟨_, _, rfl, by rw [HNX.out]; exact (HRO.out.below (HBX.out)).below hB3⟩, HBf.out.trans ((HBX.out.trans (hB3.mono hzx)).mono HBf.out.size)⟩
                    case measure => simp [intOf]; omega
                · have hpm : p < m := by
                    rw [he2] at he
                    by_cases hpm : p < m
                    · exact hpm
                    · rw [decide_eq_false hpm] at he; simp at he
                  have hz : out[p]? = some out[p] := List.getElem?_eq_getElem (by have := HOL.out; omega)
                  rw [he2, hz, decide_eq_true hpm] at he
                  have hee : indicesL own = indicesL out[p] := by
                    have : indicesL out[p] = indicesL own := by simpa using he
                    exact this.symm
                  have HMAP := Lib.hid (show out = turnsS l (k + 1) by rw [HTS.out, ins_eq HS.out hln HOB.out (List.getElem_mem _) hee])
                  clear he he2 hz hee
                  go_wp2_with fail
                  go_roundw
                  case rel => exact ⟨k + 1, by omega, by go_num, ⟨_, _, _, rfl⟩, by rw [← HMAP.out]; exact HOF.out.bel hB, ⟨_, _, rfl, by rw [HNX.out]; exact HRO.out.below hB⟩, HBf.out.trans (hB.mono HBf.out.size)⟩
                  case measure => simp [intOf]; omega
      · obtain rfl : k = 8 := by omega
        go_wp2_with fail
        go_ret
        exact ⟨_, rfl, by rw [Hrv.out]; exact hown, hBr⟩
end Go.Proofs.Ytdcjhfmkkcakhaa

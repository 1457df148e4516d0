/-
  Contracts of the reference's repairs: SameDominoes, IndexOf, l33Best, RepairOf, RepairCost, WorstDomino: the plain model's values; nothing that was there is written. No condition but the sizes.
-/
import Derived.Test.YtoehmocamaamcaaRepI
namespace Go.Proofs.Ytoehmocamaamcaa
open Go.ChangeShapes Go.WideShapes Go.ChangeAt Go.RowKit Go.Deep
set_option linter.unusedVariables false

theorem OwDD.at8 {B : Nat} {w : World} {A : Option Addr} {n c : Nat} {ll : List (List Dm)} (h : OwDD B w (.slice A n c) ll) {k : Nat} (hk : k < ll.length) :
    ∃ b off l A' c', A = some ⟨b, off, none⟩ ∧ b < w.heap.size ∧ ll[k]? = some l ∧ OwD 0 w (.slice A' l.length c') l ∧ w.cell? ⟨b, off + k, none⟩ = some (.slice A' l.length c') := by
  obtain ⟨⟨A', c', e⟩, vs, h1, h2⟩ := h
  injection e with e1 e2 e3
  subst e2
  have hx : ll[k]? = some ll[k] := List.getElem?_eq_getElem hk
  obtain ⟨b, off, e, hlt, hc⟩ := (Rd.of_own h1).2 (by omega)
  obtain ⟨u, hu, ho⟩ := h2 k _ hx
  obtain ⟨A'', c'', rfl⟩ := ho.1
  exact ⟨b, off, ll[k], A'', c'', e, hlt, hx, ho, hc k _ hu⟩
set_option maxRecDepth 100000 in
set_option maxHeartbeats 4000000 in
theorem SameDominoes_s (A : Option Addr) (N c : Nat) (a : List Dm) (B : Option Addr) (M d : Nat) (b : List Dm) (w : World) (hN : N = a.length) (hM : M = b.length) (hl : N ≤ 1048576) (hl2 : M ≤ 1048576) (hr : RdD w A a) (hs : RdD w B b) (r : Bool) (hrr : decide (a = b) = r) :
    Calls Try.prog 92 #[.slice A N c, .slice B M d] w fun e w' => e = .returned (.bool r) ∧ Below w.heap.size w w' := by
  have HN := Lib.hid hN
  have HM := Lib.hid hM
  have HRR := Lib.hid hrr
  have HR := Lib.hid hr
  have HS := Lib.hid hs
  clear hrr hr hs
  by_cases hNM : N = M
  · subst hNM
    have HB := Lib.hid (Below.refl w.heap.size w)
    have hneq : (!((N : Int) == (N : Int))) = false := by simp
    clear hN hM
    go_enter Try.func92, Try.ntmps92
    go_wp2_with fail
    go_loopw [5] (fun i wr => ∃ k : Nat, k ≤ N ∧ i = .int .i64 k ∧ Hid (a.take k = b.take k) ∧ Hid (Below w.heap.size w wr)) (fun i _ => N - (intOf i).toNat)
    case atStart => exact ⟨0, by omega, rfl, Lib.hid (by simp), HB⟩
    case round =>
      obtain ⟨k, hk, rfl, HP, HBk⟩ := hrel
      clear HB
      by_cases hlt : k < N
      · obtain ⟨ba, oa, x, y, z, rfl, hbla, hx, _, _, _, a0, a1, a2⟩ := (HR.out.below HBk.out).at_ (k := k) (by rw [← HN.out]; exact hlt)
        obtain ⟨bb, obb, u, v, t, rfl, hblb, hu, _, _, _, b0, b1, b2⟩ := (HS.out.below HBk.out).at_ (k := k) (by rw [← HM.out]; exact hlt)
        have hnd := neq_dom
        obtain ⟨e, he⟩ : ∃ e : Bool, (x == u && y == v && z == t) = e := ⟨_, rfl⟩
        have hee : e = decide (((x, y, z) : Dm) = (u, v, t)) := by rw [← he, dom_beq3]
        have q0 := bq_cell a0
        have q1 := bq_cell a1
        have q2 := bq_cell a2
        have q3 := bq_cell b0
        have q4 := bq_cell b1
        have q5 := bq_cell b2
        have hkN : (k : Int) < (N : Int) := by omega
        have HX := Lib.hid hx
        have HU := Lib.hid hu
        clear hx hu a0 a1 a2 b0 b1 b2
        cases e
        · have HF := Lib.hid (show r = false by rw [← HRR.out]; exact decide_eq_false (same_not HX.out HU.out (of_decide_eq_false hee.symm)))
          clear hee
          go_wp2_with fail
          (refine wp_region_quiet_bel (by kernel_rfl) (by kernel_rfl) ?_; (repeat (first | go_big_quiet_step (fail) | quiet_step (fail))); refine wpQuiet_nil ?_; intro wq hw0; obtain ⟨⟨_, hbq⟩, hw1⟩ := hw0; subst hw1; try dsimp only)
          go_wp2_with fail
          go_ret
          exact ⟨ret_bool HF.out.symm, bl_trans HBk.out hbq⟩
        · have HT := Lib.hid (same_step HX.out HU.out HP.out (of_decide_eq_true hee.symm))
          clear hee
          go_wp2_with fail
          (refine wp_region_quiet_bel (by kernel_rfl) (by kernel_rfl) ?_; (repeat (first | go_big_quiet_step (fail) | quiet_step (fail))); refine wpQuiet_nil ?_; intro wq hw0; obtain ⟨⟨_, hbq⟩, hw1⟩ := hw0; subst hw1; try dsimp only)
          go_wp2_with fail
          go_roundw
          case rel => exact ⟨k + 1, by omega, by go_num, HT, Lib.hid (bl_trans HBk.out hbq)⟩
          case measure => simp [intOf]; omega
      · obtain rfl : k = N := by omega
        have HT := Lib.hid (show r = true by
          rw [← HRR.out]
          have h := HP.out
          rw [List.take_of_length_le (by rw [← HN.out]; exact Nat.le_refl _), List.take_of_length_le (by rw [← HM.out]; exact Nat.le_refl _)] at h
          exact decide_eq_true h)
        go_wp2_with fail
        go_ret
        exact ⟨ret_bool HT.out.symm, HBk.out⟩
  · have hneq : (!((N : Int) == (M : Int))) = true := by
      have : (N : Int) ≠ (M : Int) := by omega
      simpa using this
    have hneq2 : ((N : Int) != (M : Int)) = true := hneq
    have HF := Lib.hid (show r = false by rw [← HRR.out]; exact decide_eq_false (fun e => hNM (by rw [HN.out, HM.out, e])))
    have HB := Lib.hid (Below.refl w.heap.size w)
    clear hN hM hNM
    go_enter Try.func92, Try.ntmps92
    go_wp2_with fail
    go_ret
    exact ⟨ret_bool HF.out.symm, HB.out⟩
theorem ListTilings_sn (A : Option Addr) (c : Nat) (rs : List Int) (w : World) (hl : rs.length ≤ 1048576) (hr : RdI w A rs) (all : List (List Dm)) (n : Nat) (hall : all = listT rs) (hn : n = all.length) :
    Calls Try.prog 68 #[.agg #[.slice A rs.length c]] w fun e w' => ∃ A' c', e = .returned (.slice A' n c') ∧ OwDD w.heap.size w' (.slice A' n c') all ∧ Below w.heap.size w w' := by
  subst hn
  subst hall
  refine (ListTilings_s A c rs w hl hr).mono fun e w' ⟨v, h1, h2, h3⟩ => ?_
  obtain ⟨A', c', rfl⟩ := h2.form
  exact ⟨A', c', h1, h2, h3⟩
set_option maxRecDepth 100000 in
set_option maxHeartbeats 4000000 in
theorem IndexOf_s (A : Option Addr) (c : Nat) (rs : List Int) (B : Option Addr) (M d : Nat) (list : List Dm) (w : World) (hl : rs.length ≤ 1048576) (hM : M = list.length) (hl2 : M ≤ 1048576) (hr : RdI w A rs) (hs : RdD w B list) (v : Int) (hv : idxD (listT rs) list 0 = v) :
    Calls Try.prog 67 #[.agg #[.slice A rs.length c], .slice B M d] w fun e w' => e = .returned (.int .i64 v) ∧ Below w.heap.size w w' := by
  have hr' := Lib.hid hr
  have hs' := Lib.hid hs
  have HM := Lib.hid hM
  have HV := Lib.hid hv
  (have hB := Below.refl w.heap.size w; have P := Blk.new w 34 [.slice A rs.length c]; have Pc := P.c1)
  have hlen := listT_len rs
  obtain ⟨all, hall⟩ : ∃ all, all = listT rs := ⟨_, rfl⟩
  have HA := Lib.hid hall
  rw [← hall] at hlen
  obtain ⟨N, hn⟩ : ∃ n, n = all.length := ⟨_, rfl⟩
  rw [← hn] at hlen
  have HN := Lib.hid hn
  have HI := Lib.hid (show ∀ t ∈ all, t.length ≤ 1048576 from fun t ht => by rw [hall] at ht; have := listT_item ht; omega)
  have HVV := Lib.hid (show idxD all list 0 = v by rw [hall]; exact hv)
  clear hr hs hM hv hall hn
  go_enter Try.func67, Try.ntmps67
  go_wp2_with (go_at_call 68; refine (ListTilings_sn A c rs _ hl (hr'.out.below (bl_trans hB (by go_grown))) all N HA.out HN.out).mono ?_; rintro e wb ⟨A1, c1, rfl, i1, hbn⟩; have hSz := bl_sz (bl_trans hB (by go_grown)) hbn; replace hB := bl_trans (bl_trans hB (by go_grown)) hbn; replace P := P.bel (bl_trans (by go_grown) hbn); replace Pc := P.c1; have HR := Lib.hid i1; have HS := Lib.hid (hs'.out.below hB); clear i1; clear hbn)
  have HB := Lib.hid hB
  clear hB P Pc
  go_loopw [6] (fun i wr => ∃ k : Nat, k ≤ N ∧ i = .int .i64 k ∧ Hid (list ∉ all.take k) ∧ Hid (Below wb.heap.size wb wr)) (fun i _ => N - (intOf i).toNat)
  case atStart => exact ⟨0, by omega, rfl, Lib.hid (by simp), Lib.hid (Below.refl _ _)⟩
  case round =>
    obtain ⟨k, hk, rfl, HP, HBk⟩ := hrel
    by_cases hlt : k < N
    · obtain ⟨ba, oa, l, g, cc, rfl, hbla, hx, ol, c0⟩ := (HR.out.bel HBk.out).at8 (k := k) (by rw [← HN.out]; exact hlt)
      have OL := Lib.hid ol
      have HL := Lib.hid (HI.out l (List.mem_of_getElem? hx))
      obtain ⟨i1, i2⟩ := idx_at hx HP.out
      have I1 := Lib.hid i1
      have I2 := Lib.hid i2
      have hkN : (k : Int) < (N : Int) := by omega
      have hS2 := Lib.hid (HS.out.below HBk.out)
      obtain ⟨r, hrr⟩ : ∃ r : Bool, decide (l = list) = r := ⟨_, rfl⟩
      have HRR := Lib.hid hrr
      clear hx ol i1 i2 hrr
      cases r
      · have HT := Lib.hid (I2.out (of_decide_eq_false HRR.out))
        go_wp2_with (go_at_call 92; refine (SameDominoes_s g l.length cc l B M d list _ rfl HM.out HL.out hl2 OL.out.rd hS2.out false HRR.out).mono ?_; rintro e w1 ⟨rfl, hb1⟩)
        go_roundw
        case rel => exact ⟨k + 1, by omega, by go_num, HT, Lib.hid (bl_trans HBk.out hb1)⟩
        case measure => simp [intOf]; omega
      · have HT := Lib.hid (show v = (k : Int) by rw [← HVV.out]; exact I1.out (of_decide_eq_true HRR.out))
        go_wp2_with (go_at_call 92; refine (SameDominoes_s g l.length cc l B M d list _ rfl HM.out HL.out hl2 OL.out.rd hS2.out true HRR.out).mono ?_; rintro e w1 ⟨rfl, hb1⟩)
        go_ret
        exact ⟨ret_int HT.out.symm, bl_trans HB.out (bl_trans HBk.out hb1)⟩
    · obtain rfl : k = N := by omega
      have HT := Lib.hid (show v = -1 by
        rw [← HVV.out]
        have h := HP.out
        rw [List.take_of_length_le (by rw [← HN.out]; exact Nat.le_refl _)] at h
        exact idx_none h)
      go_wp2_with fail
      go_ret
      exact ⟨ret_int HT.out.symm, bl_trans HB.out HBk.out⟩
theorem CountChanges_Ns (A B : Option Addr) (N M c d : Nat) (l m : List Dm) (w : World) (hN : N = l.length) (hM : M = m.length) (hl : N ≤ 1048576) (hm : M ≤ 1048576) (hr : RdD w A l) (hs : RdD w B m) (v : Int) (hv : (countCh l m : Int) = v) :
    Calls Try.prog 64 #[.slice A N c, .slice B M d] w fun e w' => e = .returned (.int .i64 v) ∧ Below w.heap.size w w' := by
  subst hN; subst hM; subst hv; exact CountChanges_s A B c d l m w hl hm hr hs
def bestI : Option Nat → Int
  | none => -1
  | some b => (b : Int)
theorem l11Has_Nv (A : Option Addr) (N c : Nat) (l : List Dm) (x y : Int) (z : Bool) (w : World) (hN : N = l.length) (hl : N ≤ 1048576) (hr : RdD w A l) (v : Int) (hv : findD l (x, y, z) 0 = v) :
    Calls Try.prog 90 #[.slice A N c, .agg #[.int .i64 x, .int .i64 y, .bool z]] w fun e w' => e = .returned (.int .i64 v) ∧ Below w.heap.size w w' := by
  subst hv; exact l11Has_N A N c l x y z w hN hl hr
set_option maxRecDepth 100000 in
set_option maxHeartbeats 4000000 in
theorem l33Best_any (Bd : Nat) (A : Option Addr) (N c : Nat) (all : List (List Dm)) (B : Option Addr) (M d : Nat) (list : List Dm) (x y : Int) (z : Bool) (w : World) (hN : N = all.length) (hM : M = list.length) (hl : N ≤ 1048576) (hl2 : M ≤ 1048576) (hit : ∀ t ∈ all, t.length ≤ 1048576) (hr : OwDD Bd w (.slice A N c) all) (hs : RdD w B list) (o : Option Nat) (ho : bestOf list (x, y, z) all = o) :
    Calls Try.prog 69 #[.slice A N c, .slice B M d, .agg #[.int .i64 x, .int .i64 y, .bool z]] w fun e w' => e = .returned (.int .i64 (bestI o)) ∧ Below w.heap.size w w' := by
  have HN := Lib.hid hN
  have HM := Lib.hid hM
  have HO := Lib.hid ho
  have HI := Lib.hid hit
  have hx := bl_alloc (Below.refl w.heap.size w) (.cells #[.int .i64 x, .int .i64 y, .bool z] 45)
  have HP := Lib.hid (Blk.new w 45 [.int .i64 x, .int .i64 y, .bool z])
  have HR := Lib.hid (hr.bel hx)
  have HS := Lib.hid (hs.below hx)
  have HB := Lib.hid hx
  obtain ⟨W, hW⟩ : ∃ W, W = w.alloc (.cells #[.int .i64 x, .int .i64 y, .bool z] 45) := ⟨_, rfl⟩
  clear hN hM ho hit hx hr hs
  go_enter Try.func69, Try.ntmps69
  go_wp2_with fail
  rw [← hW] at HP HR HS HB ⊢
  clear hW
  go_loopw [7, 8, 9] (fun v m i wr => ∃ (k : Nat) (p q : Int), k ≤ N ∧ i = .int .i64 k ∧ v = .int .i64 p ∧ m = .int .i64 q ∧ Hid ((bestTo list (x, y, z) all k = none ∧ p = -1 ∧ q = 0) ∨ ∃ b l, bestTo list (x, y, z) all k = some b ∧ all[b]? = some l ∧ p = (b : Int) ∧ q = (countCh list l : Int)) ∧ Hid (Below W.heap.size W wr)) (fun _ _ i _ => N - (intOf i).toNat)
  case atStart => exact ⟨0, -1, 0, by omega, rfl, rfl, rfl, Lib.hid (.inl ⟨rfl, rfl, rfl⟩), Lib.hid (Below.refl _ _)⟩
  case round =>
    obtain ⟨k, p, q, hk, rfl, rfl, rfl, HV, HBk⟩ := hrel
    by_cases hlt : k < N
    · obtain ⟨ba, oa, l, g, cc, rfl, hbla, hxl, ol, c0⟩ := (HR.out.bel HBk.out).at8 (k := k) (by rw [← HN.out]; exact hlt)
      obtain ⟨ln, hln⟩ : ∃ ln, ln = l.length := ⟨_, rfl⟩
      rw [← hln] at c0 ol
      have HLn := Lib.hid hln
      have hll : ln ≤ 1048576 := by rw [hln]; exact HI.out l (List.mem_of_getElem? hxl)
      have OL := Lib.hid ol
      have HX := Lib.hid hxl
      have hkN : (k : Int) < (N : Int) := by omega
      have HS2 := Lib.hid (HS.out.below HBk.out)
      have HP2 := Lib.hid (HP.out.bel HBk.out)
      have p0 := HP2.out.c3
      obtain ⟨fv, hfv⟩ : ∃ fv, findD l (x, y, z) 0 = fv := ⟨_, rfl⟩
      have hfn := findD_neg (x, y, z) l 0 (Int.le_refl _)
      rw [hfv] at hfn
      have HFV := Lib.hid hfv
      have q0 := bq_cell p0.1
      have q1 := bq_cell p0.2.1
      have q2 := bq_cell p0.2.2
      have q3 := bq_cell c0
      have C0 := Lib.hid c0
      clear hln hxl ol hfv c0 p0
      by_cases hin : ((x, y, z) : Dm) ∈ l
      · have hge : fv ≥ 0 := by
          rcases Int.lt_or_le fv 0 with h | h
          · exact absurd hin (hfn.1 h)
          · exact h
        have hd : decide (fv ≥ 0) = true := decide_eq_true hge
        have hd2 : decide (0 ≤ fv) = true := decide_eq_true hge
        have HT := Lib.hid (bestTo_in (list := list) HX.out hin)
        clear hin hfn
        go_wp2_with fail
        (refine wp_region_quiet_bel (by kernel_rfl) (by kernel_rfl) ?_; (repeat (first | go_big_quiet_step ((go_at_call 90; exact Calls.bel_of (l11Has_Nv g ln cc l x y z _ HLn.out hll (OL.out.rd.below (BelowOf.bel _)) fv HFV.out))) | quiet_step ((go_at_call 90; exact Calls.bel_of (l11Has_Nv g ln cc l x y z _ HLn.out hll (OL.out.rd.below (BelowOf.bel _)) fv HFV.out))))); refine wpQuiet_nil ?_; intro wq hw0; obtain ⟨⟨_, hbq⟩, hw1⟩ := hw0; subst hw1; try dsimp only)
        clear q0 q1 q2 q3
        go_wp2_with fail
        go_roundw
        case rel => exact ⟨k + 1, p, q, by omega, by go_num, rfl, rfl, by rw [HT.out]; exact HV, Lib.hid (bl_trans HBk.out hbq)⟩
        case measure => simp [intOf]; omega
      · have hlt0 : fv < 0 := hfn.2 hin
        have hd : decide (fv ≥ 0) = false := decide_eq_false (by omega)
        have hd2 : decide (0 ≤ fv) = false := decide_eq_false (by omega)
        have HNI := Lib.hid hin
        clear hin hfn
        obtain ⟨n1, hn1⟩ : ∃ n1 : Nat, countCh list l = n1 := ⟨_, rfl⟩
        have HN1 := Lib.hid (show (countCh list l : Int) = (n1 : Int) by rw [hn1])
        have HN1' := Lib.hid hn1
        clear hn1
        go_wp2_with fail
        (refine wp_region_quiet_bel (by kernel_rfl) (by kernel_rfl) ?_; (repeat (first | go_big_quiet_step ((go_at_call 90; exact Calls.bel_of (l11Has_Nv g ln cc l x y z _ HLn.out hll (OL.out.rd.below (BelowOf.bel _)) fv HFV.out))) | quiet_step ((go_at_call 90; exact Calls.bel_of (l11Has_Nv g ln cc l x y z _ HLn.out hll (OL.out.rd.below (BelowOf.bel _)) fv HFV.out))))); refine wpQuiet_nil ?_; intro wq hw0; obtain ⟨⟨_, hbq⟩, hw1⟩ := hw0; subst hw1; try dsimp only)
        clear q0 q1 q2 q3
        have OL1 := Lib.hid (OL.out.bel hbq)
        have HS3 := Lib.hid (HS2.out.below hbq)
        have c1 := (hbq.cell (p := ⟨ba, oa + k, none⟩) hbla).trans C0.out
        have HB1 := Lib.hid (bl_trans HBk.out hbq)
        obtain ⟨wy, rfl⟩ : ∃ wy : World, wy = wq := ⟨_, rfl⟩
        clear hbq hd hd2 hlt0
        rcases HV.out with ⟨hb, rfl, rfl⟩ | ⟨b, l2, hb, hb2, rfl, rfl⟩
        · have HT := Lib.hid (bestTo_first HX.out HNI.out hb)
          clear hb HV
          go_wp2_with (go_at_call 64; refine (CountChanges_Ns B g M ln d cc list l _ HM.out HLn.out hl2 hll HS3.out OL1.out.rd n1 HN1.out).mono ?_; rintro e w3 ⟨rfl, hb3⟩; have HB3 := Lib.hid (bl_trans HB1.out hb3); clear hb3)
          go_roundw
          case rel => exact ⟨k + 1, k, n1, by omega, by go_num, rfl, rfl, by rw [HT.out]; exact Lib.hid (.inr ⟨k, l, rfl, HX.out, rfl, by rw [HN1.out]⟩), HB3⟩
          case measure => simp [intOf]; omega
        · obtain ⟨n2, hn2⟩ : ∃ n2 : Nat, countCh list l2 = n2 := ⟨_, rfl⟩
          have HN2 := Lib.hid hn2
          have HT := Lib.hid (show bestTo list (x, y, z) all (k + 1) = if n1 < n2 then some k else some b by rw [bestTo_next HX.out HNI.out hb hb2, HN1'.out, hn2])
          have HB2 := Lib.hid hb2
          rw [hn2]
          have hb0 : decide ((b : Int) < 0) = false := decide_eq_false (by omega)
          clear hb hb2 HV hn2
          by_cases hlt2 : n1 < n2
          · have hd : decide ((n1 : Int) < (n2 : Int)) = true := decide_eq_true (by omega)
            have HT2 := Lib.hid (show bestTo list (x, y, z) all (k + 1) = some k by rw [HT.out, if_pos hlt2])
            clear HT
            go_wp2_with (go_at_call 64; refine (CountChanges_Ns B g M ln d cc list l _ HM.out HLn.out hl2 hll HS3.out OL1.out.rd n1 HN1.out).mono ?_; rintro e w3 ⟨rfl, hb3⟩; have HB3 := Lib.hid (bl_trans HB1.out hb3); clear hb3)
            go_roundw
            case rel => exact ⟨k + 1, k, n1, by omega, by go_num, rfl, rfl, by rw [HT2.out]; exact Lib.hid (.inr ⟨k, l, rfl, HX.out, rfl, by rw [HN1.out]⟩), HB3⟩
            case measure => simp [intOf]; omega
          · have hd : decide ((n1 : Int) < (n2 : Int)) = false := decide_eq_false (by omega)
            have HT2 := Lib.hid (show bestTo list (x, y, z) all (k + 1) = some b by rw [HT.out, if_neg hlt2])
            clear HT
            go_wp2_with (go_at_call 64; refine (CountChanges_Ns B g M ln d cc list l _ HM.out HLn.out hl2 hll HS3.out OL1.out.rd n1 HN1.out).mono ?_; rintro e w3 ⟨rfl, hb3⟩; have HB3 := Lib.hid (bl_trans HB1.out hb3); clear hb3)
            go_roundw
            case rel => exact ⟨k + 1, b, n2, by omega, by go_num, rfl, rfl, by rw [HT2.out]; exact Lib.hid (.inr ⟨b, l2, rfl, HB2.out, rfl, by rw [HN2.out]⟩), HB3⟩
            case measure => simp [intOf]; omega
    · obtain rfl : k = N := by omega
      have HF := Lib.hid (show p = bestI o by
        have h1 : bestTo list (x, y, z) all k = o := by rw [HN.out]; exact HO.out
        rcases HV.out with ⟨h2, h3, _⟩ | ⟨b, l, h2, _, h3, _⟩
        · rw [← h1, h2, h3]; rfl
        · rw [← h1, h2, h3]; rfl)
      go_wp2_with fail
      go_ret
      exact ⟨ret_int HF.out, bl_trans HB.out HBk.out⟩
set_option maxRecDepth 100000 in
set_option maxHeartbeats 4000000 in
theorem RepairOf_s (A : Option Addr) (c : Nat) (rs : List Int) (B : Option Addr) (M d : Nat) (list : List Dm) (x y : Int) (z : Bool) (w : World) (hl : rs.length ≤ 1048576) (hM : M = list.length) (hl2 : M ≤ 1048576) (hr : RdI w A rs) (hs : RdD w B list) (o : Option (List Dm)) (ho : repR rs list (x, y, z) = o) :
    Calls Try.prog 29 #[.agg #[.slice A rs.length c], .slice B M d, .agg #[.int .i64 x, .int .i64 y, .bool z]] w fun e w' => ∃ v, e = .returned (.tuple #[v, .bool o.isSome]) ∧ OwD 0 w' v (o.getD []) ∧ Below w.heap.size w w' := by
  have hr' := Lib.hid hr
  have hs' := Lib.hid hs
  have HM := Lib.hid hM
  have HO := Lib.hid ho
  (have hB := Below.refl w.heap.size w; have P := (Blk.new w 34 [.slice A rs.length c]).alloc (.cells #[.int .i64 x, .int .i64 y, .bool z] 45); have Pc := P.c1; have Q := Blk.new2 w (.cells #[.slice A rs.length c] 34) 45 [.int .i64 x, .int .i64 y, .bool z]; have Qc := Q.c3)
  have hlen := listT_len rs
  obtain ⟨all, hall⟩ : ∃ all, all = listT rs := ⟨_, rfl⟩
  have HA := Lib.hid hall
  rw [← hall] at hlen
  obtain ⟨n, hn⟩ : ∃ n, n = all.length := ⟨_, rfl⟩
  rw [← hn] at hlen
  have Hn := Lib.hid hn
  have hn2 : n ≤ 1048576 := by omega
  have HIT := Lib.hid (show ∀ t ∈ all, t.length ≤ 1048576 from fun t ht => by rw [hall] at ht; have := listT_item ht; omega)
  obtain ⟨ix, hix⟩ : ∃ ix, idxD all list 0 = ix := ⟨_, rfl⟩
  have HIX := Lib.hid (show idxD (listT rs) list 0 = ix by rw [← hall]; exact hix)
  have hneg := idxD_neg list all 0 (Int.le_refl _)
  rw [hix] at hneg
  obtain ⟨bo, hbo⟩ : ∃ bo, bestOf list (x, y, z) all = bo := ⟨_, rfl⟩
  have HBO := Lib.hid hbo
  clear hr hs hM ho hn hix hbo
  by_cases hin : list ∈ all
  · have hge : ¬ ix < 0 := fun h => (hneg.1 h) hin
    have HIN := Lib.hid hin
    have hlt : decide (ix < 0) = false := decide_eq_false hge
    clear hin hneg hall
    cases bo with
    | none =>
      have HRO := Lib.hid (show o = none by rw [← HO.out]; exact repR_none (by rw [← HA.out]; exact HIN.out) (by rw [← HA.out]; exact HBO.out))
      go_enter Try.func29, Try.ntmps29
      go_wp2_with (first
        | (go_at_call 67; refine (IndexOf_s A c rs B M d list _ hl HM.out hl2 (hr'.out.below (bl_trans hB (by go_grown))) (hs'.out.below (bl_trans hB (by go_grown))) ix HIX.out).mono ?_; rintro e wn ⟨rfl, hbn⟩; have hSz := bl_sz (bl_trans hB (by go_grown)) hbn; replace hB := bl_trans (bl_trans hB (by go_grown)) hbn; replace P := P.bel (bl_trans (by go_grown) hbn); replace Pc := P.c1; replace Q := Q.bel (bl_trans (by go_grown) hbn); replace Qc := Q.c3; clear hbn)
        | (go_at_call 68; refine (ListTilings_sn A c rs _ hl (hr'.out.below hB) all n HA.out Hn.out).mono ?_; rintro e wn ⟨A1, c1, rfl, i1, hbn⟩; have hSz := bl_sz (bl_trans hB (by go_grown)) hbn; replace hB := bl_trans (bl_trans hB (by go_grown)) hbn; replace P := P.bel (bl_trans (by go_grown) hbn); replace Pc := P.c1; replace Q := Q.bel (bl_trans (by go_grown) hbn); replace Qc := Q.c3; have I1 := Lib.hid i1; have HS1 := Lib.hid (hs'.out.below hB); clear i1; clear hbn)
        | (go_at_call 69; refine (l33Best_any _ A1 n c1 all B M d list x y z _ Hn.out HM.out hn2 hl2 HIT.out I1.out HS1.out none HBO.out).mono ?_; rintro e wz ⟨rfl, hbn⟩; have hSz := bl_sz (bl_trans hB (by go_grown)) hbn; replace hB := bl_trans (bl_trans hB (by go_grown)) hbn; replace P := P.bel (bl_trans (by go_grown) hbn); replace Pc := P.c1; replace Q := Q.bel (bl_trans (by go_grown) hbn); replace Qc := Q.c3; rw [show bestI none = -1 from rfl]; clear hbn))
      go_ret2
      exact ⟨_, by rw [HRO.out]; rfl, by rw [HRO.out]; exact OwD.new_ (Nat.zero_le _), bl_alloc hB _⟩
    | some b =>
      obtain ⟨l3, hl3⟩ : ∃ l3, all[b]? = some l3 := ⟨_, List.getElem?_eq_getElem (bestTo_lt _ _ HBO.out)⟩
      have hbn : b < n := by have := bestTo_lt _ _ HBO.out; rw [Hn.out]; exact this
      have HL3 := Lib.hid hl3
      have HRO := Lib.hid (show o = some l3 by rw [← HO.out]; exact repR_some (by rw [← HA.out]; exact HIN.out) (by rw [← HA.out]; exact HBO.out) (by rw [← HA.out]; exact hl3))
      have hb0 : decide ((b : Int) < 0) = false := decide_eq_false (by omega)
      have hbN : (b : Int) < (n : Int) := by omega
      have hbz : (0 : Int) ≤ (b : Int) := by omega
      clear hl3
      go_enter Try.func29, Try.ntmps29
      go_wp2_with (first
        | (go_at_call 67; refine (IndexOf_s A c rs B M d list _ hl HM.out hl2 (hr'.out.below (bl_trans hB (by go_grown))) (hs'.out.below (bl_trans hB (by go_grown))) ix HIX.out).mono ?_; rintro e wn ⟨rfl, hbn⟩; have hSz := bl_sz (bl_trans hB (by go_grown)) hbn; replace hB := bl_trans (bl_trans hB (by go_grown)) hbn; replace P := P.bel (bl_trans (by go_grown) hbn); replace Pc := P.c1; replace Q := Q.bel (bl_trans (by go_grown) hbn); replace Qc := Q.c3; clear hbn)
        | (go_at_call 68; refine (ListTilings_sn A c rs _ hl (hr'.out.below hB) all n HA.out Hn.out).mono ?_; rintro e wn ⟨A1, c1, rfl, i1, hbn⟩; have hSz := bl_sz (bl_trans hB (by go_grown)) hbn; replace hB := bl_trans (bl_trans hB (by go_grown)) hbn; replace P := P.bel (bl_trans (by go_grown) hbn); replace Pc := P.c1; replace Q := Q.bel (bl_trans (by go_grown) hbn); replace Qc := Q.c3; have I1 := Lib.hid i1; have HS1 := Lib.hid (hs'.out.below hB); clear i1; clear hbn)
        | (go_at_call 69; refine (l33Best_any _ A1 n c1 all B M d list x y z _ Hn.out HM.out hn2 hl2 HIT.out I1.out HS1.out (some b) HBO.out).mono ?_; rintro e wn ⟨rfl, hbn⟩; have hSz := bl_sz (bl_trans hB (by go_grown)) hbn; replace hB := bl_trans (bl_trans hB (by go_grown)) hbn; replace P := P.bel (bl_trans (by go_grown) hbn); replace Pc := P.c1; replace Q := Q.bel (bl_trans (by go_grown) hbn); replace Qc := Q.c3; rw [show bestI (some b) = (b : Int) from rfl]; obtain ⟨ba, oa, l4, g4, c4, rfl, hbla, hx4, ol4, x4⟩ := (I1.out.bel hbn).at8 (k := b) (by rw [← Hn.out]; omega); rw [HL3.out] at hx4; injection hx4 with hx4; subst hx4; have OL4 := Lib.hid ol4; clear ol4; clear hbn))
      go_ret2
      exact ⟨_, by rw [HRO.out]; rfl, by rw [HRO.out]; exact OL4.out, hB⟩
  · have hlt0 : ix < 0 := hneg.2 hin
    have hlt : decide (ix < 0) = true := decide_eq_true hlt0
    have HRO := Lib.hid (show o = none by rw [← HO.out]; exact repR_no (by rw [← HA.out]; exact hin))
    clear hin hneg hlt0 hall
    go_enter Try.func29, Try.ntmps29
    go_wp2_with (go_at_call 67; refine (IndexOf_s A c rs B M d list _ hl HM.out hl2 (hr'.out.below (bl_trans hB (by go_grown))) (hs'.out.below (bl_trans hB (by go_grown))) ix HIX.out).mono ?_; rintro e wn ⟨rfl, hbn⟩; have hSz := bl_sz (bl_trans hB (by go_grown)) hbn; replace hB := bl_trans (bl_trans hB (by go_grown)) hbn; replace P := P.bel (bl_trans (by go_grown) hbn); replace Pc := P.c1; replace Q := Q.bel (bl_trans (by go_grown) hbn); replace Qc := Q.c3; clear hbn)
    go_ret2
    exact ⟨_, by rw [HRO.out]; rfl, by rw [HRO.out]; exact OwD.new_ (Nat.zero_le _), bl_alloc hB _⟩
set_option maxRecDepth 100000 in
set_option maxHeartbeats 4000000 in
theorem RepairCost_s (A : Option Addr) (c : Nat) (rs : List Int) (B : Option Addr) (M d : Nat) (list : List Dm) (x y : Int) (z : Bool) (w : World) (hl : rs.length ≤ 1048576) (hM : M = list.length) (hl2 : M ≤ 1048576) (hr : RdI w A rs) (hs : RdD w B list) :
    Calls Try.prog 22 #[.agg #[.slice A rs.length c], .slice B M d, .agg #[.int .i64 x, .int .i64 y, .bool z]] w fun e w' => e = .returned (.int .i64 (costR rs list (x, y, z))) ∧ Below w.heap.size w w' := by
  have hr' := Lib.hid hr
  have hs' := Lib.hid hs
  have HM := Lib.hid hM
  (have hB := Below.refl w.heap.size w; have P := (Blk.new w 34 [.slice A rs.length c]).alloc (.cells #[.int .i64 x, .int .i64 y, .bool z] 45); have Pc := P.c1; have Q := Blk.new2 w (.cells #[.slice A rs.length c] 34) 45 [.int .i64 x, .int .i64 y, .bool z]; have Qc := Q.c3)
  clear hr hs hM
  have hlen := repR_len rs list (x, y, z)
  cases ho : repR rs list (x, y, z) with
  | none =>
    have HO := Lib.hid ho
    have HV := Lib.hid (show costR rs list (x, y, z) = -1 by unfold costR; rw [ho])
    clear ho hlen
    go_enter Try.func22, Try.ntmps22
    go_wp2_with (go_at_call 29; refine (RepairOf_s A c rs B M d list x y z _ hl HM.out hl2 (hr'.out.below (bl_trans hB (by go_grown))) (hs'.out.below (bl_trans hB (by go_grown))) none HO.out).mono ?_; rintro e wn ⟨v1, rfl, o1, hbn⟩; have hSz := bl_sz (bl_trans hB (by go_grown)) hbn; replace hB := bl_trans (bl_trans hB (by go_grown)) hbn; replace P := P.bel (bl_trans (by go_grown) hbn); replace Pc := P.c1; replace Q := Q.bel (bl_trans (by go_grown) hbn); replace Qc := Q.c3; obtain ⟨⟨A1, c1, rfl⟩, _⟩ := id o1; clear o1; clear hbn)
    go_ret
    exact ⟨ret_int HV.out.symm, hB⟩
  | some t =>
    have HO := Lib.hid ho
    rw [ho] at hlen
    have htl : t.length ≤ 64 := hlen
    obtain ⟨n, hn⟩ : ∃ n : Nat, countCh list t = n := ⟨_, rfl⟩
    have HN := Lib.hid (show (countCh list t : Int) = (n : Int) by rw [hn])
    have HV := Lib.hid (show costR rs list (x, y, z) = (n : Int) by unfold costR; rw [ho]; dsimp only; rw [hn])
    obtain ⟨tn, htn⟩ : ∃ tn, tn = t.length := ⟨_, rfl⟩
    have HT := Lib.hid htn
    have htn2 : tn ≤ 1048576 := by omega
    clear ho hlen hn htl htn
    go_enter Try.func22, Try.ntmps22
    go_wp2_with (first
      | (go_at_call 29; refine (RepairOf_s A c rs B M d list x y z _ hl HM.out hl2 (hr'.out.below (bl_trans hB (by go_grown))) (hs'.out.below (bl_trans hB (by go_grown))) (some t) HO.out).mono ?_; rintro e wn ⟨v1, rfl, o1, hbn⟩; have hSz := bl_sz (bl_trans hB (by go_grown)) hbn; replace hB := bl_trans (bl_trans hB (by go_grown)) hbn; replace P := P.bel (bl_trans (by go_grown) hbn); replace Pc := P.c1; replace Q := Q.bel (bl_trans (by go_grown) hbn); replace Qc := Q.c3; have o2 : OwD _ _ v1 t := o1; clear o1; obtain ⟨⟨A1, c1, rfl⟩, _⟩ := id o2; have O2 := Lib.hid o2.rd; have HS2 := Lib.hid (hs'.out.below hB); rw [← HT.out]; clear o2; clear hbn)
      | (go_at_call 64; refine (CountChanges_Ns B A1 M tn d c1 list t _ HM.out HT.out hl2 htn2 HS2.out O2.out n HN.out).mono ?_; rintro e wn ⟨rfl, hbn⟩; have hSz := bl_sz (bl_trans hB (by go_grown)) hbn; replace hB := bl_trans (bl_trans hB (by go_grown)) hbn; replace P := P.bel (bl_trans (by go_grown) hbn); replace Pc := P.c1; replace Q := Q.bel (bl_trans (by go_grown) hbn); replace Qc := Q.c3; clear hbn))
    go_ret
    exact ⟨ret_int HV.out.symm, hB⟩
set_option maxRecDepth 100000 in
set_option maxHeartbeats 4000000 in
theorem WorstDomino_s (A : Option Addr) (c : Nat) (rs : List Int) (B : Option Addr) (M d : Nat) (list : List Dm) (w : World) (hl : rs.length ≤ 1048576) (hM : M = list.length) (hl2 : M ≤ 1048576) (hr : RdI w A rs) (hs : RdD w B list) :
    Calls Try.prog 27 #[.agg #[.slice A rs.length c], .slice B M d] w fun e w' => e = .returned (.int .i64 (worstR rs list)) ∧ Below w.heap.size w w' := by
  have hr' := Lib.hid hr
  have hs' := Lib.hid hs
  have HM := Lib.hid hM
  (have hB := Below.refl w.heap.size w; have P := Blk.new w 34 [.slice A rs.length c]; have Pc := P.c1)
  have hlen := listT_len rs
  obtain ⟨all, hall⟩ : ∃ all, all = listT rs := ⟨_, rfl⟩
  have HA := Lib.hid hall
  rw [← hall] at hlen
  obtain ⟨n, hn⟩ : ∃ n, n = all.length := ⟨_, rfl⟩
  rw [← hn] at hlen
  have Hn := Lib.hid hn
  have hn2 : n ≤ 1048576 := by omega
  have HIT := Lib.hid (show ∀ t ∈ all, t.length ≤ 1048576 from fun t ht => by rw [hall] at ht; have := listT_item ht; omega)
  obtain ⟨ix, hix⟩ : ∃ ix, idxD all list 0 = ix := ⟨_, rfl⟩
  have HIX := Lib.hid (show idxD (listT rs) list 0 = ix by rw [← hall]; exact hix)
  have hneg := idxD_neg list all 0 (Int.le_refl _)
  rw [hix] at hneg
  clear hr hs hM hn hix
  by_cases hin : list ∈ all
  · have hge : ¬ ix < 0 := fun h => (hneg.1 h) hin
    have hlt : decide (ix < 0) = false := decide_eq_false hge
    obtain ⟨fc, hfc⟩ : ∃ fc, fc = costAt all list := ⟨_, rfl⟩
    have HF := Lib.hid hfc
    have HW := Lib.hid (show worstR rs list = (wTo fc list.length).1 by unfold worstR; rw [← hall, if_pos hin, hfc])
    have HPOS := Lib.hid (show ∀ k, 0 < k → 0 ≤ (wTo fc k).1 ∧ 0 ≤ (wTo fc k).2 by rw [hfc]; exact wTo_pos (costAt_nonneg all list))
    have HNNG := Lib.hid (show ∀ k, 0 ≤ fc k by rw [hfc]; exact costAt_nonneg all list)
    have hM64 : M ≤ 64 := by rw [HM.out]; rw [hall] at hin; exact listT_item hin
    clear hin hneg hge hall hfc
    go_enter Try.func27, Try.ntmps27
    go_upto_region 7 with (first
      | (go_at_call 67; refine (IndexOf_s A c rs B M d list _ hl HM.out hl2 (hr'.out.below (bl_trans hB (by go_grown))) (hs'.out.below (bl_trans hB (by go_grown))) ix HIX.out).mono ?_; rintro e wn ⟨rfl, hbn⟩; have hSz := bl_sz (bl_trans hB (by go_grown)) hbn; replace hB := bl_trans (bl_trans hB (by go_grown)) hbn; replace P := P.bel (bl_trans (by go_grown) hbn); replace Pc := P.c1; clear hbn)
      | (go_at_call 68; refine (ListTilings_sn A c rs _ hl (hr'.out.below hB) all n HA.out Hn.out).mono ?_; rintro e wn ⟨A1, c1, rfl, i1, hbn⟩; have hSz := bl_sz (bl_trans hB (by go_grown)) hbn; replace hB := bl_trans (bl_trans hB (by go_grown)) hbn; replace P := P.bel (bl_trans (by go_grown) hbn); replace Pc := P.c1; have I1 := Lib.hid i1; have HS1 := Lib.hid (hs'.out.below hB); clear i1; clear hbn))
    have HB := Lib.hid hB
    have I2 := I1
    have HS2 := HS1
    clear hB P Pc hlt I1 HS1
    obtain ⟨wb, hwb⟩ : ∃ wb : World, wb = wn := ⟨_, rfl⟩
    rw [← hwb] at I2 HS2 HB ⊢
    clear hwb
    go_loopw [6, 7, 8] (fun v m i wr => ∃ (k : Nat) (q : Int), k ≤ M ∧ i = .int .i64 k ∧ v = .int .i64 (wTo fc k).1 ∧ m = .int .i64 q ∧ (0 < k → q = (wTo fc k).2) ∧ Hid (Below wb.heap.size wb wr)) (fun _ _ i _ => M - (intOf i).toNat)
    case atStart => exact ⟨0, 0, by omega, rfl, rfl, rfl, fun h => by omega, Lib.hid (Below.refl _ _)⟩
    case round =>
      obtain ⟨k, q, hk, rfl, rfl, rfl, hq, HBk⟩ := hrel
      by_cases hlt : k < M
      · obtain ⟨ba, oa, x, y, z, rfl, hbla, hx, _, _, _, a0, a1, a2⟩ := (HS2.out.below HBk.out).at_ (k := k) (by rw [← HM.out]; exact hlt)
        have HX := Lib.hid hx
        obtain ⟨p1, hp1⟩ : ∃ p1, p1 = (wTo fc k).1 := ⟨_, rfl⟩
        obtain ⟨p2, hp2⟩ : ∃ p2, p2 = (wTo fc k).2 := ⟨_, rfl⟩
        obtain ⟨fk, hfk⟩ : ∃ fk, fk = fc k := ⟨_, rfl⟩
        have HN1 := Lib.hid (show (wTo fc (k + 1)).1 = if p2 < fk then (k : Int) else p1 by rw [wTo, ← hp2, ← hfk, hp1]; split <;> rfl)
        have HN2 := Lib.hid (show (wTo fc (k + 1)).2 = if p2 < fk then fk else p2 by rw [wTo, ← hp2, ← hfk]; split <;> first | rfl | exact hp2.symm)
        -- the test of the reference is the program's
        have HT := Lib.hid (show (p1 < 0 ∧ p2 < fk) ∨ (0 ≤ p1 ∧ q = p2) from by
          rcases Nat.eq_zero_or_pos k with h0 | h0
          · left
            subst h0
            have := HNNG.out 0
            rw [← hfk] at this
            have e1 : p1 = -1 := hp1
            have e2 : p2 = -1 := hp2
            omega
          · right
            have := HPOS.out k h0
            rw [← hp1] at this
            exact ⟨this.1, by rw [hq h0, hp2]⟩)
        rw [← hp1]
        have HFK := Lib.hid hfk
        have hkM : (k : Int) < (M : Int) := by omega
        have HI3 := Lib.hid (I2.out.bel HBk.out)
        have HS3 := Lib.hid (HS2.out.below HBk.out)
        obtain ⟨bo, hbo⟩ : ∃ bo, bestOf list (x, y, z) all = bo := ⟨_, rfl⟩
        have HBO := Lib.hid hbo
        clear hx hp1 hp2 hfk hbo hq
        obtain ⟨nb, hnb⟩ : ∃ nb : Bool, (decide (p1 < 0) || decide (q < fk)) = nb := ⟨_, rfl⟩
        have hnb2 : nb = decide (p2 < fk) := by
          rw [← hnb]
          rcases HT.out with ⟨h1, h2⟩ | ⟨h1, h2⟩
          · rw [decide_eq_true h1, decide_eq_true h2]; rfl
          · rw [decide_eq_false (by omega), h2]; rfl
        have HNX := Lib.hid (show (wTo fc (k + 1)).1 = (if nb then (k : Int) else p1) ∧ (wTo fc (k + 1)).2 = if nb then fk else p2 from by
          rw [HN1.out, HN2.out, hnb2]
          by_cases h : p2 < fk
          · simp [h]
          · simp [h])
        have HQ2 := Lib.hid (show nb = false → q = p2 from fun h => by
          rcases HT.out with ⟨h1, h2⟩ | ⟨h1, h2⟩
          · rw [hnb2, decide_eq_true h2] at h; cases h
          · exact h2)
        clear hnb2 HN1 HN2 HT
        cases bo with
        | none =>
          have hc : fk = 1000 := by rw [HFK.out, HF.out]; exact costAt_none HX.out HBO.out
          subst hc
          cases hp0 : decide (p1 < 0)
          · have hpn : ¬ p1 < 0 := of_decide_eq_false hp0
            cases hp1 : decide (q < 1000)
            · have hp2 : ¬ q < 1000 := of_decide_eq_false hp1
              have hp3 : decide (1000 > q) = false := hp1
              have hnn : nb = false := by rw [← hnb, hp0, hp1]; rfl
              have HNY := Lib.hid (show (wTo fc (k + 1)).1 = p1 ∧ (wTo fc (k + 1)).2 = q by have := HNX.out; rw [hnn] at this; exact ⟨this.1, by rw [HQ2.out hnn]; exact this.2⟩)
              clear hnb
              go_wp2_with (go_at_call 69; refine (l33Best_any _ A1 n c1 all (some ⟨ba, oa, none⟩) M d list x y z _ Hn.out HM.out hn2 hl2 HIT.out HI3.out HS3.out none HBO.out).mono ?_; rintro e w5 ⟨rfl, hb5⟩; rw [show bestI none = -1 from rfl]; have HB5 := Lib.hid (bl_trans HBk.out hb5); clear hb5)
              go_roundw
              case rel => exact ⟨k + 1, q, by omega, by go_num, by rw [HNY.out.1], rfl, fun _ => HNY.out.2.symm, HB5⟩
              case measure => simp [intOf]; omega
            · have hp2 : q < 1000 := of_decide_eq_true hp1
              have hp3 : decide (1000 > q) = true := hp1
              have hnn : nb = true := by rw [← hnb, hp0, hp1]; rfl
              have HNY := Lib.hid (show (wTo fc (k + 1)).1 = (k : Int) ∧ (wTo fc (k + 1)).2 = 1000 by have := HNX.out; rw [hnn] at this; exact this)
              clear hnb
              go_wp2_with (go_at_call 69; refine (l33Best_any _ A1 n c1 all (some ⟨ba, oa, none⟩) M d list x y z _ Hn.out HM.out hn2 hl2 HIT.out HI3.out HS3.out none HBO.out).mono ?_; rintro e w5 ⟨rfl, hb5⟩; rw [show bestI none = -1 from rfl]; have HB5 := Lib.hid (bl_trans HBk.out hb5); clear hb5)
              go_roundw
              case rel => exact ⟨k + 1, 1000, by omega, by go_num, by rw [HNY.out.1], rfl, fun _ => HNY.out.2.symm, HB5⟩
              case measure => simp [intOf]; omega
          · have hpn : p1 < 0 := of_decide_eq_true hp0
            have hnn : nb = true := by rw [← hnb, hp0]; rfl
            have HNY := Lib.hid (show (wTo fc (k + 1)).1 = (k : Int) ∧ (wTo fc (k + 1)).2 = 1000 by have := HNX.out; rw [hnn] at this; exact this)
            clear hnb
            go_wp2_with (go_at_call 69; refine (l33Best_any _ A1 n c1 all (some ⟨ba, oa, none⟩) M d list x y z _ Hn.out HM.out hn2 hl2 HIT.out HI3.out HS3.out none HBO.out).mono ?_; rintro e w5 ⟨rfl, hb5⟩; rw [show bestI none = -1 from rfl]; have HB5 := Lib.hid (bl_trans HBk.out hb5); clear hb5)
            go_roundw
            case rel => exact ⟨k + 1, 1000, by omega, by go_num, by rw [HNY.out.1], rfl, fun _ => HNY.out.2.symm, HB5⟩
            case measure => simp [intOf]; omega

        | some b =>
          obtain ⟨l3, hl3⟩ : ∃ l3, all[b]? = some l3 := ⟨_, List.getElem?_eq_getElem (bestTo_lt _ _ HBO.out)⟩
          have hbn : b < n := by have := bestTo_lt _ _ HBO.out; rw [Hn.out]; exact this
          have HL3 := Lib.hid hl3
          obtain ⟨n3, hn3⟩ : ∃ n3 : Nat, countCh list l3 = n3 := ⟨_, rfl⟩
          have HN3 := Lib.hid (show (countCh list l3 : Int) = (n3 : Int) by rw [hn3])
          have hc : fk = (n3 : Int) := by rw [HFK.out, HF.out, costAt_some HX.out HBO.out hl3, hn3]
          subst hc
          obtain ⟨ln, hln⟩ : ∃ ln, ln = l3.length := ⟨_, rfl⟩
          have HLN := Lib.hid hln
          have hln2 : ln ≤ 1048576 := by rw [hln]; exact HIT.out l3 (List.mem_of_getElem? hl3)
          have hb0 : decide ((b : Int) ≥ 0) = true := decide_eq_true (by omega)
          have hb1 : decide ((0 : Int) ≤ (b : Int)) = true := decide_eq_true (by omega)
          have hbN : (b : Int) < (n : Int) := by omega
          clear hl3 hn3 hln
          cases hp0 : decide (p1 < 0)
          · have hpn : ¬ p1 < 0 := of_decide_eq_false hp0
            cases hp1 : decide (q < (n3 : Int))
            · have hp2 : ¬ q < (n3 : Int) := of_decide_eq_false hp1
              have hp3 : decide ((n3 : Int) > q) = false := hp1
              have hnn : nb = false := by rw [← hnb, hp0, hp1]; rfl
              have HNY := Lib.hid (show (wTo fc (k + 1)).1 = p1 ∧ (wTo fc (k + 1)).2 = q by have := HNX.out; rw [hnn] at this; exact ⟨this.1, by rw [HQ2.out hnn]; exact this.2⟩)
              clear hnb
              go_wp2_with (first | (go_at_call 69; refine (l33Best_any _ A1 n c1 all (some ⟨ba, oa, none⟩) M d list x y z _ Hn.out HM.out hn2 hl2 HIT.out HI3.out HS3.out (some b) HBO.out).mono ?_; rintro e w5 ⟨rfl, hb5⟩; rw [show bestI (some b) = (b : Int) from rfl]; obtain ⟨bb, ob, l5, g5, c5, rfl, hblb, hx5, ol5, x5⟩ := (HI3.out.bel hb5).at8 (k := b) (by rw [← Hn.out]; omega); rw [HL3.out] at hx5; injection hx5 with hx5; subst hx5; rw [← HLN.out] at ol5 x5; have OL5 := Lib.hid ol5; have HS5 := Lib.hid (HS3.out.below hb5); have HB5 := Lib.hid (bl_trans HBk.out hb5); clear hb5 ol5) | (go_at_call 64; refine (CountChanges_Ns (some ⟨ba, oa, none⟩) g5 M ln d c5 list l3 _ HM.out HLN.out hl2 hln2 HS5.out OL5.out.rd n3 HN3.out).mono ?_; rintro e w7 ⟨rfl, hb7⟩; have HB7 := Lib.hid (bl_trans HB5.out hb7); clear hb7))
              go_roundw
              case rel => exact ⟨k + 1, q, by omega, by go_num, by rw [HNY.out.1], rfl, fun _ => HNY.out.2.symm, HB7⟩
              case measure => simp [intOf]; omega
            · have hp2 : q < (n3 : Int) := of_decide_eq_true hp1
              have hp3 : decide ((n3 : Int) > q) = true := hp1
              have hnn : nb = true := by rw [← hnb, hp0, hp1]; rfl
              have HNY := Lib.hid (show (wTo fc (k + 1)).1 = (k : Int) ∧ (wTo fc (k + 1)).2 = (n3 : Int) by have := HNX.out; rw [hnn] at this; exact this)
              clear hnb
              go_wp2_with (first | (go_at_call 69; refine (l33Best_any _ A1 n c1 all (some ⟨ba, oa, none⟩) M d list x y z _ Hn.out HM.out hn2 hl2 HIT.out HI3.out HS3.out (some b) HBO.out).mono ?_; rintro e w5 ⟨rfl, hb5⟩; rw [show bestI (some b) = (b : Int) from rfl]; obtain ⟨bb, ob, l5, g5, c5, rfl, hblb, hx5, ol5, x5⟩ := (HI3.out.bel hb5).at8 (k := b) (by rw [← Hn.out]; omega); rw [HL3.out] at hx5; injection hx5 with hx5; subst hx5; rw [← HLN.out] at ol5 x5; have OL5 := Lib.hid ol5; have HS5 := Lib.hid (HS3.out.below hb5); have HB5 := Lib.hid (bl_trans HBk.out hb5); clear hb5 ol5) | (go_at_call 64; refine (CountChanges_Ns (some ⟨ba, oa, none⟩) g5 M ln d c5 list l3 _ HM.out HLN.out hl2 hln2 HS5.out OL5.out.rd n3 HN3.out).mono ?_; rintro e w7 ⟨rfl, hb7⟩; have HB7 := Lib.hid (bl_trans HB5.out hb7); clear hb7))
              go_roundw
              case rel => exact ⟨k + 1, (n3 : Int), by omega, by go_num, by rw [HNY.out.1], rfl, fun _ => HNY.out.2.symm, HB7⟩
              case measure => simp [intOf]; omega
          · have hpn : p1 < 0 := of_decide_eq_true hp0
            have hnn : nb = true := by rw [← hnb, hp0]; rfl
            have HNY := Lib.hid (show (wTo fc (k + 1)).1 = (k : Int) ∧ (wTo fc (k + 1)).2 = (n3 : Int) by have := HNX.out; rw [hnn] at this; exact this)
            clear hnb
            go_wp2_with (first | (go_at_call 69; refine (l33Best_any _ A1 n c1 all (some ⟨ba, oa, none⟩) M d list x y z _ Hn.out HM.out hn2 hl2 HIT.out HI3.out HS3.out (some b) HBO.out).mono ?_; rintro e w5 ⟨rfl, hb5⟩; rw [show bestI (some b) = (b : Int) from rfl]; obtain ⟨bb, ob, l5, g5, c5, rfl, hblb, hx5, ol5, x5⟩ := (HI3.out.bel hb5).at8 (k := b) (by rw [← Hn.out]; omega); rw [HL3.out] at hx5; injection hx5 with hx5; subst hx5; rw [← HLN.out] at ol5 x5; have OL5 := Lib.hid ol5; have HS5 := Lib.hid (HS3.out.below hb5); have HB5 := Lib.hid (bl_trans HBk.out hb5); clear hb5 ol5) | (go_at_call 64; refine (CountChanges_Ns (some ⟨ba, oa, none⟩) g5 M ln d c5 list l3 _ HM.out HLN.out hl2 hln2 HS5.out OL5.out.rd n3 HN3.out).mono ?_; rintro e w7 ⟨rfl, hb7⟩; have HB7 := Lib.hid (bl_trans HB5.out hb7); clear hb7))
            go_roundw
            case rel => exact ⟨k + 1, (n3 : Int), by omega, by go_num, by rw [HNY.out.1], rfl, fun _ => HNY.out.2.symm, HB7⟩
            case measure => simp [intOf]; omega
      · obtain rfl : k = M := by omega
        go_wp2_with fail
        go_ret
        exact ⟨ret_int (by rw [HW.out, ← HM.out]), bl_trans HB.out HBk.out⟩
  · have hlt0 : ix < 0 := hneg.2 hin
    have hlt : decide (ix < 0) = true := decide_eq_true hlt0
    have HW := Lib.hid (show worstR rs list = -1 by unfold worstR; rw [← hall, if_neg hin])
    clear hin hneg hlt0 hall
    go_enter Try.func27, Try.ntmps27
    go_wp2_with (go_at_call 67; refine (IndexOf_s A c rs B M d list _ hl HM.out hl2 (hr'.out.below (bl_trans hB (by go_grown))) (hs'.out.below (bl_trans hB (by go_grown))) ix HIX.out).mono ?_; rintro e wn ⟨rfl, hbn⟩; have hSz := bl_sz (bl_trans hB (by go_grown)) hbn; replace hB := bl_trans (bl_trans hB (by go_grown)) hbn; replace P := P.bel (bl_trans (by go_grown) hbn); replace Pc := P.c1; clear hbn)
    go_ret
    exact ⟨ret_int HW.out.symm, hB⟩
end Go.Proofs.Ytoehmocamaamcaa

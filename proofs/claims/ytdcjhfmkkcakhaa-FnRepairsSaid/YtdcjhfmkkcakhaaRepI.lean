/-
  Contracts of the program's repairs: SameDominoes, indexIn, repair, RepairOf, RepairCost, WorstDomino: the plain model's values; nothing that was there is written. No condition but the sizes.
-/
import Derived.Test.YtdcjhfmkkcakhaaRepP
import Derived.Test.YtdcjhfmkkcakhaaImL
import Derived.Test.YtdcjhfmkkcakhaaFind
import Derived.BigQuiet
namespace Go.Proofs.Ytdcjhfmkkcakhaa
open Go.ChangeShapes Go.WideShapes Go.ChangeAt Go.RowKit Go.Deep
set_option linter.unusedVariables false

theorem dom_beq3 (x y a b : Int) (z c : Bool) : (x == a && y == b && z == c) = decide (((x, y, z) : Dm) = (a, b, c)) := by
  rw [Bool.eq_iff_iff]; simp [Prod.ext_iff, and_assoc]
theorem same_step {a b : List Dm} {k : Nat} {d e : Dm} (h1 : a[k]? = some d) (h2 : b[k]? = some e) (hp : a.take k = b.take k) (hd : d = e) : a.take (k + 1) = b.take (k + 1) := by
  rw [take_snoc_at h1, take_snoc_at h2, hp, hd]
theorem same_not {a b : List Dm} {k : Nat} {d e : Dm} (h1 : a[k]? = some d) (h2 : b[k]? = some e) (hd : d ≠ e) : a ≠ b := by
  intro h
  subst h
  rw [h1] at h2
  injection h2 with h2
  exact hd h2
set_option maxRecDepth 100000 in
set_option maxHeartbeats 4000000 in
theorem SameDominoes_i (A : Option Addr) (N c : Nat) (a : List Dm) (B : Option Addr) (M d : Nat) (b : List Dm) (w : World) (hN : N = a.length) (hM : M = b.length) (hl : N ≤ 1048576) (hl2 : M ≤ 1048576) (hr : RdD w A a) (hs : RdD w B b) (r : Bool) (hrr : decide (a = b) = r) :
    Calls Try.prog 188 #[.slice A N c, .slice B M d] w fun e w' => e = .returned (.bool r) ∧ Below w.heap.size w w' := by
  have HN := Lib.hid hN
  have HM := Lib.hid hM
  have HRR := Lib.hid hrr
  have HR := Lib.hid hr
  have HS := Lib.hid hs
  clear hrr hr hs
  by_cases hNM : N = M
  · subst hNM
    have HB := Lib.hid (Below.refl w.heap.size w)
    have hneq : (!((N : Int) == (N : Int))) = false := by simp
    clear hN hM
    go_enter Try.func188, Try.ntmps188
    go_wp2_with fail
    go_loopw [13] (fun i wr => ∃ k : Nat, k ≤ N ∧ i = .int .i64 k ∧ Hid (a.take k = b.take k) ∧ Hid (Below w.heap.size w wr)) (fun i _ => N - (intOf i).toNat)
    case atStart => exact ⟨0, by omega, rfl, Lib.hid (by simp), HB⟩
    case round =>
      obtain ⟨k, hk, rfl, HP, HBk⟩ := hrel
      clear HB
      by_cases hlt : k < N
      · obtain ⟨ba, oa, x, y, z, rfl, hbla, hx, _, _, _, a0, a1, a2⟩ := (HR.out.below HBk.out).at_ (k := k) (by rw [← HN.out]; exact hlt)
        obtain ⟨bb, obb, u, v, t, rfl, hblb, hu, _, _, _, b0, b1, b2⟩ := (HS.out.below HBk.out).at_ (k := k) (by rw [← HM.out]; exact hlt)
        have hnd := neq_dom
        obtain ⟨e, he⟩ : ∃ e : Bool, (x == u && y == v && z == t) = e := ⟨_, rfl⟩
        have hee : e = decide (((x, y, z) : Dm) = (u, v, t)) := by rw [← he, dom_beq3]
        have q0 := bq_cell a0
        have q1 := bq_cell a1
        have q2 := bq_cell a2
        have q3 := bq_cell b0
        have q4 := bq_cell b1
        have q5 := bq_cell b2
        have hkN : (k : Int) < (N : Int) := by omega
        have HX := Lib.hid hx
        have HU := Lib.hid hu
        clear hx hu a0 a1 a2 b0 b1 b2
        cases e
        · have HF := Lib.hid (show r = false by rw [← HRR.out]; exact decide_eq_false (same_not HX.out HU.out (of_decide_eq_false hee.symm)))
          clear hee
          go_wp2_with fail
          (refine wp_region_quiet_bel (by kernel_rfl) (by kernel_rfl) ?_; (repeat (first | go_big_quiet_step (fail) | quiet_step (fail))); refine wpQuiet_nil ?_; intro wq hw0; obtain ⟨⟨_, hbq⟩, hw1⟩ := hw0; subst hw1; try dsimp only)
          go_wp2_with fail
          go_ret
          exact ⟨ret_bool HF.out.symm, bl_trans HBk.out hbq⟩
        · have HT := Lib.hid (same_step HX.out HU.out HP.out (of_decide_eq_true hee.symm))
          clear hee
          go_wp2_with fail
          (refine wp_region_quiet_bel (by kernel_rfl) (by kernel_rfl) ?_; (repeat (first | go_big_quiet_step (fail) | quiet_step (fail))); refine wpQuiet_nil ?_; intro wq hw0; obtain ⟨⟨_, hbq⟩, hw1⟩ := hw0; subst hw1; try dsimp only)
          go_wp2_with fail
          go_roundw
          case rel => exact ⟨k + 1, by omega, by go_num, HT, Lib.hid (bl_trans HBk.out hbq)⟩
          case measure => simp [intOf]; omega
      · obtain rfl : k = N := by omega
        have HT := Lib.hid (show r = true by
          rw [← HRR.out]
          have h := HP.out
          rw [List.take_of_length_le (by rw [← HN.out]; exact Nat.le_refl _), List.take_of_length_le (by rw [← HM.out]; exact Nat.le_refl _)] at h
          exact decide_eq_true h)
        go_wp2_with fail
        go_ret
        exact ⟨ret_bool HT.out.symm, HBk.out⟩
  · have hneq : (!((N : Int) == (M : Int))) = true := by
      have : (N : Int) ≠ (M : Int) := by omega
      simpa using this
    have hneq2 : ((N : Int) != (M : Int)) = true := hneq
    have HF := Lib.hid (show r = false by rw [← HRR.out]; exact decide_eq_false (fun e => hNM (by rw [HN.out, HM.out, e])))
    have HB := Lib.hid (Below.refl w.heap.size w)
    clear hN hM hNM
    go_enter Try.func188, Try.ntmps188
    go_wp2_with fail
    go_ret
    exact ⟨ret_bool HF.out.symm, HB.out⟩
theorem ItD.below {B : Nat} {w w' : World} {A : Option Addr} {ll : List (List Dm)} (h : ItD B w A ll) (hb : Below w.heap.size w w') : ItD B w' A ll := by
  obtain ⟨vs, h1, h2⟩ := h
  refine ⟨vs, h1.below hb, fun i l hl => ?_⟩
  obtain ⟨g, c, h3, h4⟩ := h2 i l hl
  exact ⟨g, c, h3, h4.bel hb⟩
theorem ItD.at_ {B : Nat} {w : World} {A : Option Addr} {ll : List (List Dm)} (h : ItD B w A ll) {k : Nat} (hk : k < ll.length) : ∃ b off l g c, A = some ⟨b, off, none⟩ ∧ b < w.heap.size ∧ ll[k]? = some l ∧ OwD B w (.slice (some ⟨g, 0, none⟩) l.length c) l ∧ w.cell? ⟨b, off + k, none⟩ = some (.slice (some ⟨g, 0, none⟩) l.length c) := by
  obtain ⟨vs, h1, h2⟩ := h
  obtain ⟨b, off, e, hlt, hc⟩ := h1.2 (by omega)
  have hx : ll[k]? = some ll[k] := List.getElem?_eq_getElem hk
  obtain ⟨g, c, h3, h4⟩ := h2 k _ hx
  have := hc k _ h3
  exact ⟨b, off, ll[k], g, c, e, hlt, hx, h4, by simpa using this⟩
theorem idx_at {all : List (List Dm)} {list l : List Dm} {k : Nat} (h : all[k]? = some l) (hn : list ∉ all.take k) : (l = list → idxD all list 0 = k) ∧ (l ≠ list → list ∉ all.take (k + 1)) := by
  constructor
  · intro e
    subst e
    have : ∀ (all : List (List Dm)) (k : Nat) (j : Int), all[k]? = some l → l ∉ all.take k → idxD all l j = j + k := by
      intro all
      induction all with
      | nil => intro k j h _; simp at h
      | cons a t ih =>
        intro k j h hn
        cases k with
        | zero =>
          simp at h
          rw [idxD, if_pos h]; simp
        | succ k =>
          rw [List.getElem?_cons_succ] at h
          rw [List.take_succ_cons, List.mem_cons, not_or] at hn
          rw [idxD, if_neg (fun e => hn.1 e.symm), ih k (j + 1) h hn.2]
          push_cast; omega
    rw [this all k 0 h hn]; simp
  · intro hne
    rw [take_snoc_at h, List.mem_append, List.mem_singleton, not_or]
    exact ⟨hn, fun e => hne e.symm⟩
theorem idx_none {all : List (List Dm)} {list : List Dm} (h : list ∉ all) : idxD all list 0 = -1 := by
  have h1 := (idxD_neg list all 0 (Int.le_refl _)).2 h
  have h2 := (idxD_rng list all 0 (Int.le_refl _)).1
  omega
set_option maxRecDepth 100000 in
set_option maxHeartbeats 4000000 in
theorem indexIn_any (Bd : Nat) (A : Option Addr) (N c : Nat) (all : List (List Dm)) (B : Option Addr) (M d : Nat) (list : List Dm) (w : World) (hN : N = all.length) (hM : M = list.length) (hl : N ≤ 1048576) (hl2 : M ≤ 1048576) (hit : ∀ t ∈ all, t.length ≤ 1048576) (hr : ItD Bd w A all) (hs : RdD w B list) (v : Int) (hv : idxD all list 0 = v) :
    Calls Try.prog 107 #[.slice A N c, .slice B M d] w fun e w' => e = .returned (.int .i64 v) ∧ Below w.heap.size w w' := by
  have HN := Lib.hid hN
  have HM := Lib.hid hM
  have HR := Lib.hid hr
  have HS := Lib.hid hs
  have HI := Lib.hid hit
  have HV := Lib.hid hv
  have HB := Lib.hid (Below.refl w.heap.size w)
  clear hN hM hr hs hit hv
  go_enter Try.func107, Try.ntmps107
  go_wp2_with fail
  go_loopw [9] (fun i wr => ∃ k : Nat, k ≤ N ∧ i = .int .i64 k ∧ Hid (list ∉ all.take k) ∧ Hid (Below w.heap.size w wr)) (fun i _ => N - (intOf i).toNat)
  case atStart => exact ⟨0, by omega, rfl, Lib.hid (by simp), HB⟩
  case round =>
    obtain ⟨k, hk, rfl, HP, HBk⟩ := hrel
    clear HB
    by_cases hlt : k < N
    · obtain ⟨ba, oa, l, g, cc, rfl, hbla, hx, ol, c0⟩ := (HR.out.below HBk.out).at_ (k := k) (by rw [← HN.out]; exact hlt)
      have OL := Lib.hid ol
      have HL := Lib.hid (HI.out l (List.mem_of_getElem? hx))
      obtain ⟨i1, i2⟩ := idx_at hx HP.out
      have I1 := Lib.hid i1
      have I2 := Lib.hid i2
      have hkN : (k : Int) < (N : Int) := by omega
      have hS2 := Lib.hid (HS.out.below HBk.out)
      obtain ⟨r, hrr⟩ : ∃ r : Bool, decide (l = list) = r := ⟨_, rfl⟩
      have HRR := Lib.hid hrr
      clear hx ol i1 i2 hrr
      cases r
      · have HT := Lib.hid (I2.out (of_decide_eq_false HRR.out))
        go_wp2_with (go_at_call 188; refine (SameDominoes_i (some ⟨g, 0, none⟩) l.length cc l B M d list _ rfl HM.out HL.out hl2 OL.out.rd hS2.out false HRR.out).mono ?_; rintro e w1 ⟨rfl, hb1⟩)
        go_roundw
        case rel => exact ⟨k + 1, by omega, by go_num, HT, Lib.hid (bl_trans HBk.out hb1)⟩
        case measure => simp [intOf]; omega
      · have HT := Lib.hid (show v = (k : Int) by rw [← HV.out]; exact I1.out (of_decide_eq_true HRR.out))
        go_wp2_with (go_at_call 188; refine (SameDominoes_i (some ⟨g, 0, none⟩) l.length cc l B M d list _ rfl HM.out HL.out hl2 OL.out.rd hS2.out true HRR.out).mono ?_; rintro e w1 ⟨rfl, hb1⟩)
        go_ret
        exact ⟨ret_int HT.out.symm, bl_trans HBk.out hb1⟩
    · obtain rfl : k = N := by omega
      have HT := Lib.hid (show v = -1 by
        rw [← HV.out]
        have h := HP.out
        rw [List.take_of_length_le (by rw [← HN.out]; exact Nat.le_refl _)] at h
        exact idx_none h)
      go_wp2_with fail
      go_ret
      exact ⟨ret_int HT.out.symm, HBk.out⟩
theorem nil_eq (w : World) : (binOp .eql 46 (.slice none 0 0) (.slice none 0 0)).run Try.prog w = .ok (.bool true) w := by
  simp only [binOp, Sem.run_bind, run_equal_slice_nil w 46 53 none 0 0 Try.underlying46]
  rfl
theorem some_eq (a : Addr) (n c : Nat) (w : World) : (binOp .eql 46 (.slice (some a) n c) (.slice none 0 0)).run Try.prog w = .ok (.bool false) w := by
  simp only [binOp, Sem.run_bind, run_equal_slice_nil w 46 53 (some a) n c Try.underlying46]
  rfl
theorem nil_ne (w : World) : (binOp .neq 46 (.slice none 0 0) (.slice none 0 0)).run Try.prog w = .ok (.bool false) w :=
  run_neq_slice_nil w 46 53 none 0 0 Try.underlying46
theorem some_ne (a : Addr) (n c : Nat) (w : World) : (binOp .neq 46 (.slice (some a) n c) (.slice none 0 0)).run Try.prog w = .ok (.bool true) w :=
  run_neq_slice_nil w 46 53 (some a) n c Try.underlying46
theorem CountChanges_N (A B : Option Addr) (N M c d : Nat) (l m : List Dm) (w : World) (hN : N = l.length) (hM : M = m.length) (hl : N ≤ 1048576) (hm : M ≤ 1048576) (hr : RdD w A l) (hs : RdD w B m) (v : Int) (hv : (countCh l m : Int) = v) :
    Calls Try.prog 36 #[.slice A N c, .slice B M d] w fun e w' => e = .returned (.int .i64 v) ∧ Below w.heap.size w w' := by
  subst hN; subst hM; subst hv; exact CountChanges_i A B c d l m w hl hm hr hs
/-- the value of repair -/
def RV (Bd : Nat) (w : World) (v : Value) (all : List (List Dm)) (o : Option Nat) : Prop :=
  (o = none ∧ v = .slice none 0 0) ∨ ∃ b l g c, o = some b ∧ all[b]? = some l ∧ v = .slice (some ⟨g, 0, none⟩) l.length c ∧ OwD Bd w (.slice (some ⟨g, 0, none⟩) l.length c) l
theorem RV.bel {Bd : Nat} {w w' : World} {v : Value} {all : List (List Dm)} {o : Option Nat} (h : RV Bd w v all o) (hb : Below w.heap.size w w') : RV Bd w' v all o := by
  rcases h with h | ⟨b, l, g, c, h1, h2, h3, h4⟩
  · exact .inl h
  · exact .inr ⟨b, l, g, c, h1, h2, h3, h4.bel hb⟩
set_option maxRecDepth 100000 in
set_option maxHeartbeats 4000000 in
theorem repair_any (Bd : Nat) (A : Option Addr) (N c : Nat) (all : List (List Dm)) (B : Option Addr) (M d : Nat) (list : List Dm) (x y : Int) (z : Bool) (w : World) (hN : N = all.length) (hM : M = list.length) (hl : N ≤ 1048576) (hl2 : M ≤ 1048576) (hit : ∀ t ∈ all, t.length ≤ 1048576) (hr : ItD Bd w A all) (hs : RdD w B list) (o : Option Nat) (ho : bestOf list (x, y, z) all = o) :
    Calls Try.prog 108 #[.slice A N c, .slice B M d, .agg #[.int .i64 x, .int .i64 y, .bool z]] w fun e w' => ∃ v, e = .returned v ∧ RV Bd w' v all o ∧ Below w.heap.size w w' := by
  have HN := Lib.hid hN
  have HM := Lib.hid hM
  have HO := Lib.hid ho
  have HI := Lib.hid hit
  have hx := bl_alloc (Below.refl w.heap.size w) (.cells #[.int .i64 x, .int .i64 y, .bool z] 53)
  have HP := Lib.hid (Blk.new w 53 [.int .i64 x, .int .i64 y, .bool z])
  have HR := Lib.hid (hr.below hx)
  have HS := Lib.hid (hs.below hx)
  have HB := Lib.hid hx
  obtain ⟨W, hW⟩ : ∃ W, W = w.alloc (.cells #[.int .i64 x, .int .i64 y, .bool z] 53) := ⟨_, rfl⟩
  clear hN hM ho hit hx hr hs
  go_enter Try.func108, Try.ntmps108
  go_wp2_with fail
  rw [← hW] at HP HR HS HB ⊢
  clear hW
  go_loopw [7, 12] (fun v i wr => ∃ k : Nat, k ≤ N ∧ i = .int .i64 k ∧ Hid (RV Bd wr v all (bestTo list (x, y, z) all k)) ∧ Hid (Below W.heap.size W wr)) (fun _ i _ => N - (intOf i).toNat)
  case atStart => exact ⟨0, by omega, rfl, Lib.hid (.inl ⟨rfl, rfl⟩), Lib.hid (Below.refl _ _)⟩
  case round =>
    obtain ⟨k, hk, rfl, HV, HBk⟩ := hrel
    by_cases hlt : k < N
    · obtain ⟨ba, oa, l, g, cc, rfl, hbla, hxl, ol, c0⟩ := (HR.out.below HBk.out).at_ (k := k) (by rw [← HN.out]; exact hlt)
      obtain ⟨ln, hln⟩ : ∃ ln, ln = l.length := ⟨_, rfl⟩
      rw [← hln] at c0 ol
      have HLn := Lib.hid hln
      have hll : ln ≤ 1048576 := by rw [hln]; exact HI.out l (List.mem_of_getElem? hxl)
      have OL := Lib.hid ol
      have HX := Lib.hid hxl
      have hkN : (k : Int) < (N : Int) := by omega
      have HS2 := Lib.hid (HS.out.below HBk.out)
      have HP2 := Lib.hid (HP.out.bel HBk.out)
      have p0 := HP2.out.c3
      obtain ⟨ob, hob⟩ : ∃ ob, ob = bestTo list (x, y, z) all k := ⟨_, rfl⟩
      rw [← hob] at HV
      have HOB := Lib.hid hob.symm
      clear hln hxl ol hob
      by_cases hin : ((x, y, z) : Dm) ∈ l
      · have HIN := Lib.hid (decide_eq_true hin)
        have HT := Lib.hid (show bestTo list (x, y, z) all (k + 1) = ob by rw [bestTo_in HX.out hin, HOB.out])
        clear hin
        go_wp2_with (go_at_call 116; refine (hasDomino_N (some ⟨g, 0, none⟩) ln cc l x y z _ HLn.out hll OL.out.rd true HIN.out).mono ?_; rintro e w1 ⟨rfl, hb1⟩)
        go_roundw
        case rel => exact ⟨k + 1, by omega, by go_num, by rw [HT.out]; exact Lib.hid (HV.out.bel hb1), Lib.hid (bl_trans HBk.out hb1)⟩
        case measure => simp [intOf]; omega
      · have HIN := Lib.hid (decide_eq_false hin)
        have HNI := Lib.hid hin
        have hnq := nil_eq
        have hsq := some_eq
        clear hin
        rcases HV.out with ⟨rfl, rfl⟩ | ⟨b, l2, g2, c2, rfl, hb2, rfl, ol2⟩
        · have HT := Lib.hid (bestTo_first HX.out HNI.out HOB.out)
          clear HV
          go_wp2_with (go_at_call 116; refine (hasDomino_N (some ⟨g, 0, none⟩) ln cc l x y z _ HLn.out hll OL.out.rd false HIN.out).mono ?_; rintro e w1 ⟨rfl, hb1⟩; have OL1 := Lib.hid (OL.out.bel hb1); have HB1 := Lib.hid hb1; clear hb1)
          go_roundw
          case rel => exact ⟨k + 1, by omega, by go_num, by rw [HT.out]; exact Lib.hid (.inr ⟨k, l, g, cc, rfl, HX.out, by rw [HLn.out], by rw [← HLn.out]; exact OL1.out⟩), Lib.hid (bl_trans HBk.out HB1.out)⟩
          case measure => simp [intOf]; omega
        · obtain ⟨m2, hm2⟩ : ∃ m2, m2 = l2.length := ⟨_, rfl⟩
          rw [← hm2] at ol2
          have HM2 := Lib.hid hm2
          have hml : m2 ≤ 1048576 := by rw [hm2]; exact HI.out l2 (List.mem_of_getElem? hb2)
          have OL2 := Lib.hid ol2
          have HB2 := Lib.hid hb2
          obtain ⟨n1, hn1⟩ : ∃ n1 : Nat, countCh list l = n1 := ⟨_, rfl⟩
          obtain ⟨n2, hn2⟩ : ∃ n2 : Nat, countCh list l2 = n2 := ⟨_, rfl⟩
          have HN1 := Lib.hid (show (countCh list l : Int) = (n1 : Int) by rw [hn1])
          have HN2 := Lib.hid (show (countCh list l2 : Int) = (n2 : Int) by rw [hn2])
          have HT := Lib.hid (show bestTo list (x, y, z) all (k + 1) = if n1 < n2 then some k else some b by rw [bestTo_next HX.out HNI.out HOB.out hb2, hn1, hn2])
          rw [← hm2]
          clear hm2 ol2 hb2 hn1 hn2 HV
          by_cases hlt2 : n1 < n2
          · have hd : decide ((n1 : Int) < (n2 : Int)) = true := decide_eq_true (by omega)
            have HT2 := Lib.hid (show bestTo list (x, y, z) all (k + 1) = some k by rw [HT.out, if_pos hlt2])
            clear HT
            go_wp2_with (first
              | (go_at_call 116; refine (hasDomino_N (some ⟨g, 0, none⟩) ln cc l x y z _ HLn.out hll OL.out.rd false HIN.out).mono ?_; rintro e w1 ⟨rfl, hb1⟩; have OL1 := Lib.hid (OL.out.bel hb1); have OL21 := Lib.hid (OL2.out.bel hb1); have HS3 := Lib.hid (HS2.out.below hb1); have HB1 := Lib.hid (bl_trans HBk.out hb1); clear hb1)
              | (go_at_call 36; with_reducible refine (CountChanges_N B (some ⟨g, 0, none⟩) M ln d cc list l _ HM.out HLn.out hl2 hll HS3.out OL1.out.rd n1 HN1.out).mono ?_; rintro e w3 ⟨rfl, hb3⟩; have OL4 := Lib.hid (OL1.out.bel hb3); have OL24 := Lib.hid (OL21.out.bel hb3); have HS4 := Lib.hid (HS3.out.below hb3); have HB4 := Lib.hid (bl_trans HB1.out hb3); clear hb3)
              | (go_at_call 36; with_reducible refine (CountChanges_N B (some ⟨g2, 0, none⟩) M m2 d c2 list l2 _ HM.out HM2.out hl2 hml HS4.out OL24.out.rd n2 HN2.out).mono ?_; rintro e w5 ⟨rfl, hb5⟩; have OL6 := Lib.hid (OL4.out.bel hb5); have HB6 := Lib.hid (bl_trans HB4.out hb5); clear hb5))
            go_roundw
            case rel => exact ⟨k + 1, by omega, by go_num, by rw [HT2.out]; exact Lib.hid (.inr ⟨k, l, g, cc, rfl, HX.out, by rw [HLn.out], by rw [← HLn.out]; exact OL6.out⟩), HB6⟩
            case measure => simp [intOf]; omega
          · have hd : decide ((n1 : Int) < (n2 : Int)) = false := decide_eq_false (by omega)
            have HT2 := Lib.hid (show bestTo list (x, y, z) all (k + 1) = some b by rw [HT.out, if_neg hlt2])
            clear HT
            go_wp2_with (first
              | (go_at_call 116; refine (hasDomino_N (some ⟨g, 0, none⟩) ln cc l x y z _ HLn.out hll OL.out.rd false HIN.out).mono ?_; rintro e w1 ⟨rfl, hb1⟩; have OL1 := Lib.hid (OL.out.bel hb1); have OL21 := Lib.hid (OL2.out.bel hb1); have HS3 := Lib.hid (HS2.out.below hb1); have HB1 := Lib.hid (bl_trans HBk.out hb1); clear hb1)
              | (go_at_call 36; with_reducible refine (CountChanges_N B (some ⟨g, 0, none⟩) M ln d cc list l _ HM.out HLn.out hl2 hll HS3.out OL1.out.rd n1 HN1.out).mono ?_; rintro e w3 ⟨rfl, hb3⟩; have OL24 := Lib.hid (OL21.out.bel hb3); have HS4 := Lib.hid (HS3.out.below hb3); have HB4 := Lib.hid (bl_trans HB1.out hb3); clear hb3)
              | (go_at_call 36; with_reducible refine (CountChanges_N B (some ⟨g2, 0, none⟩) M m2 d c2 list l2 _ HM.out HM2.out hl2 hml HS4.out OL24.out.rd n2 HN2.out).mono ?_; rintro e w5 ⟨rfl, hb5⟩; have OL26 := Lib.hid (OL24.out.bel hb5); have HB6 := Lib.hid (bl_trans HB4.out hb5); clear hb5))
            go_roundw
            case rel => exact ⟨k + 1, by omega, by go_num, by rw [HT2.out]; exact Lib.hid (.inr ⟨b, l2, g2, c2, rfl, HB2.out, by rw [HM2.out], by rw [← HM2.out]; exact OL26.out⟩), HB6⟩
            case measure => simp [intOf]; omega
    · obtain rfl : k = N := by omega
      have HF := Lib.hid (show bestTo list (x, y, z) all k = o by rw [HN.out]; exact HO.out)
      go_wp2_with fail
      go_ret
      exact ⟨_, rfl, by rw [← HF.out]; exact HV.out, bl_trans HB.out HBk.out⟩
set_option maxRecDepth 100000 in
set_option maxHeartbeats 4000000 in
theorem RepairOf_i (A : Option Addr) (c : Nat) (rs : List Int) (B : Option Addr) (M d : Nat) (list : List Dm) (x y : Int) (z : Bool) (w : World) (hl : rs.length ≤ 1048576) (hM : M = list.length) (hl2 : M ≤ 1048576) (hr : RdI w A rs) (hs : RdD w B list) (o : Option (List Dm)) (ho : repR rs list (x, y, z) = o) :
    Calls Try.prog 29 #[.agg #[.slice A rs.length c], .slice B M d, .agg #[.int .i64 x, .int .i64 y, .bool z]] w fun e w' => ∃ v, e = .returned (.tuple #[v, .bool o.isSome]) ∧ OwD w.heap.size w' v (o.getD []) ∧ Below w.heap.size w w' := by
  have hr' := Lib.hid hr
  have hs' := Lib.hid hs
  have HM := Lib.hid hM
  have HO := Lib.hid ho
  (have hB := Below.refl w.heap.size w; have P := (Blk.new w 31 [.slice A rs.length c]).alloc (.cells #[.int .i64 x, .int .i64 y, .bool z] 53); have Pc := P.c1; have Q := Blk.new2 w (.cells #[.slice A rs.length c] 31) 53 [.int .i64 x, .int .i64 y, .bool z]; have Qc := Q.c3)
  have hlen := listT_len rs
  obtain ⟨all, hall⟩ : ∃ all, all = listT rs := ⟨_, rfl⟩
  have HA := Lib.hid hall
  rw [← hall] at hlen
  obtain ⟨n, hn⟩ : ∃ n, n = all.length := ⟨_, rfl⟩
  rw [← hn] at hlen
  have Hn := Lib.hid hn
  have hn2 : n ≤ 1048576 := by omega
  have HIT := Lib.hid (show ∀ t ∈ all, t.length ≤ 1048576 from fun t ht => by rw [hall] at ht; have := listT_item ht; omega)
  obtain ⟨ix, hix⟩ : ∃ ix, idxD all list 0 = ix := ⟨_, rfl⟩
  have HIX := Lib.hid hix
  have hneg := idxD_neg list all 0 (Int.le_refl _)
  rw [hix] at hneg
  obtain ⟨bo, hbo⟩ : ∃ bo, bestOf list (x, y, z) all = bo := ⟨_, rfl⟩
  have HBO := Lib.hid hbo
  have hLT := Lib.hid (show ∀ w : World, RdI w A rs → Calls Try.prog 106 #[.agg #[.slice A rs.length c]] w fun e w' => ∃ A' c', e = .returned (.slice A' n c') ∧ ItD w.heap.size w' A' all ∧ Below w.heap.size w w' from fun w h => by
    have := ListTilings_i A c rs w hl h
    rw [← hall, ← hn] at this
    exact this)
  have hnn := nil_ne
  have hsn := some_ne
  clear hr hs hM ho hall hn hix hbo
  by_cases hin : list ∈ all
  · have hge : ¬ ix < 0 := fun h => (hneg.1 h) hin
    have HIN := Lib.hid hin
    have hlt : decide (ix < 0) = false := decide_eq_false hge
    clear hin hneg hge
    cases bo with
    | none =>
      have HRO := Lib.hid (show o = none by rw [← HO.out]; exact repR_none (by rw [← HA.out]; exact HIN.out) (by rw [← HA.out]; exact HBO.out))
      go_enter Try.func29, Try.ntmps29
      go_wp2_with (first
        | (go_at_call 106; refine (hLT.out _ (hr'.out.below (bl_trans hB (by go_grown)))).mono ?_; rintro e wn ⟨A1, c1, rfl, i1, hbn⟩; have hSz := bl_sz (bl_trans hB (by go_grown)) hbn; replace hB := bl_trans (bl_trans hB (by go_grown)) hbn; replace P := P.bel (bl_trans (by go_grown) hbn); replace Pc := P.c1; replace Q := Q.bel (bl_trans (by go_grown) hbn); replace Qc := Q.c3; have I1 := Lib.hid i1; have HS1 := Lib.hid (hs'.out.below hB); clear i1; clear hbn)
        | (go_at_call 107; refine (indexIn_any _ A1 n c1 all B M d list _ Hn.out HM.out hn2 hl2 HIT.out I1.out HS1.out ix HIX.out).mono ?_; rintro e wn ⟨rfl, hbn⟩; have hSz := bl_sz (bl_trans hB (by go_grown)) hbn; replace hB := bl_trans (bl_trans hB (by go_grown)) hbn; replace P := P.bel (bl_trans (by go_grown) hbn); replace Pc := P.c1; replace Q := Q.bel (bl_trans (by go_grown) hbn); replace Qc := Q.c3; have I2 := Lib.hid (I1.out.below hbn); have HS2 := Lib.hid (HS1.out.below hbn); clear hbn)
        | (go_at_call 108; refine (repair_any _ A1 n c1 all B M d list x y z _ Hn.out HM.out hn2 hl2 HIT.out I2.out HS2.out none HBO.out).mono ?_; rintro e wn ⟨v3, rfl, rv3, hbn⟩; have hSz := bl_sz (bl_trans hB (by go_grown)) hbn; replace hB := bl_trans (bl_trans hB (by go_grown)) hbn; replace P := P.bel (bl_trans (by go_grown) hbn); replace Pc := P.c1; replace Q := Q.bel (bl_trans (by go_grown) hbn); replace Qc := Q.c3; rcases rv3 with ⟨_, rfl⟩ | ⟨b, l, g, cc, e3, _⟩; rotate_left; cases e3; clear hbn))
      go_ret2
      exact ⟨_, by rw [HRO.out]; rfl, by rw [HRO.out]; exact OwD.nil_ _ _, hB⟩
    | some b =>
      go_enter Try.func29, Try.ntmps29
      go_wp2_with (first
        | (go_at_call 106; refine (hLT.out _ (hr'.out.below (bl_trans hB (by go_grown)))).mono ?_; rintro e wa ⟨A1, c1, rfl, i1, hbn⟩; have hSz := bl_sz (bl_trans hB (by go_grown)) hbn; replace hB := bl_trans (bl_trans hB (by go_grown)) hbn; replace P := P.bel (bl_trans (by go_grown) hbn); replace Pc := P.c1; replace Q := Q.bel (bl_trans (by go_grown) hbn); replace Qc := Q.c3; have I1 := Lib.hid i1; have HS1 := Lib.hid (hs'.out.below hB); clear i1; clear hbn)
        | (go_at_call 107; refine (indexIn_any _ A1 n c1 all B M d list _ Hn.out HM.out hn2 hl2 HIT.out I1.out HS1.out ix HIX.out).mono ?_; rintro e wn ⟨rfl, hbn⟩; have hSz := bl_sz (bl_trans hB (by go_grown)) hbn; replace hB := bl_trans (bl_trans hB (by go_grown)) hbn; replace P := P.bel (bl_trans (by go_grown) hbn); replace Pc := P.c1; replace Q := Q.bel (bl_trans (by go_grown) hbn); replace Qc := Q.c3; have I2 := Lib.hid (I1.out.below hbn); have HS2 := Lib.hid (HS1.out.below hbn); clear hbn)
        | (go_at_call 108; refine (repair_any _ A1 n c1 all B M d list x y z _ Hn.out HM.out hn2 hl2 HIT.out I2.out HS2.out (some b) HBO.out).mono ?_; rintro e wn ⟨v3, rfl, rv3, hbn⟩; have hSz := bl_sz (bl_trans hB (by go_grown)) hbn; replace hB := bl_trans (bl_trans hB (by go_grown)) hbn; replace P := P.bel (bl_trans (by go_grown) hbn); replace Pc := P.c1; replace Q := Q.bel (bl_trans (by go_grown) hbn); replace Qc := Q.c3; rcases rv3 with ⟨e3, _⟩ | ⟨b3, l3, g3, c3, e3, hb3, rfl, ol3⟩; cases e3; injection e3 with e3; subst e3; have HB3 := Lib.hid hb3; have OL3 := Lib.hid ol3; obtain ⟨n3, hn3⟩ : ∃ n3, n3 = l3.length := ⟨_, rfl⟩; rw [← hn3]; have HN3 := Lib.hid hn3; clear hb3 ol3 hn3; clear hbn))
      have HRO := Lib.hid (show o = some l3 by rw [← HO.out]; exact repR_some (by rw [← HA.out]; exact HIN.out) (by rw [← HA.out]; exact HBO.out) (by rw [← HA.out]; exact HB3.out))
      go_ret2
      exact ⟨_, by rw [HRO.out]; rfl, by rw [HRO.out, HN3.out]; exact OL3.out.mono (by simp; omega), hB⟩
  · have hlt0 : ix < 0 := hneg.2 hin
    have hlt : decide (ix < 0) = true := decide_eq_true hlt0
    have HRO := Lib.hid (show o = none by rw [← HO.out]; exact repR_no (by rw [← HA.out]; exact hin))
    clear hin hneg hlt0
    go_enter Try.func29, Try.ntmps29
    go_wp2_with (first
      | (go_at_call 106; refine (hLT.out _ (hr'.out.below (bl_trans hB (by go_grown)))).mono ?_; rintro e wn ⟨A1, c1, rfl, i1, hbn⟩; have hSz := bl_sz (bl_trans hB (by go_grown)) hbn; replace hB := bl_trans (bl_trans hB (by go_grown)) hbn; replace P := P.bel (bl_trans (by go_grown) hbn); replace Pc := P.c1; replace Q := Q.bel (bl_trans (by go_grown) hbn); replace Qc := Q.c3; have I1 := Lib.hid i1; have HS1 := Lib.hid (hs'.out.below hB); clear i1; clear hbn)
      | (go_at_call 107; refine (indexIn_any _ A1 n c1 all B M d list _ Hn.out HM.out hn2 hl2 HIT.out I1.out HS1.out ix HIX.out).mono ?_; rintro e wn ⟨rfl, hbn⟩; have hSz := bl_sz (bl_trans hB (by go_grown)) hbn; replace hB := bl_trans (bl_trans hB (by go_grown)) hbn; replace P := P.bel (bl_trans (by go_grown) hbn); replace Pc := P.c1; replace Q := Q.bel (bl_trans (by go_grown) hbn); replace Qc := Q.c3; clear hbn))
    go_ret2
    exact ⟨_, by rw [HRO.out]; rfl, by rw [HRO.out]; exact OwD.nil_ _ _, hB⟩
set_option maxRecDepth 100000 in
set_option maxHeartbeats 4000000 in
theorem RepairCost_i (A : Option Addr) (c : Nat) (rs : List Int) (B : Option Addr) (M d : Nat) (list : List Dm) (x y : Int) (z : Bool) (w : World) (hl : rs.length ≤ 1048576) (hM : M = list.length) (hl2 : M ≤ 1048576) (hr : RdI w A rs) (hs : RdD w B list) :
    Calls Try.prog 30 #[.agg #[.slice A rs.length c], .slice B M d, .agg #[.int .i64 x, .int .i64 y, .bool z]] w fun e w' => e = .returned (.int .i64 (costR rs list (x, y, z))) ∧ Below w.heap.size w w' := by
  have hr' := Lib.hid hr
  have hs' := Lib.hid hs
  have HM := Lib.hid hM
  (have hB := Below.refl w.heap.size w; have P := (Blk.new w 31 [.slice A rs.length c]).alloc (.cells #[.int .i64 x, .int .i64 y, .bool z] 53); have Pc := P.c1; have Q := Blk.new2 w (.cells #[.slice A rs.length c] 31) 53 [.int .i64 x, .int .i64 y, .bool z]; have Qc := Q.c3)
  clear hr hs hM
  have hlen := repR_len rs list (x, y, z)
  cases ho : repR rs list (x, y, z) with
  | none =>
    have HO := Lib.hid ho
    have HV := Lib.hid (show costR rs list (x, y, z) = -1 by unfold costR; rw [ho])
    clear ho hlen
    go_enter Try.func30, Try.ntmps30
    go_wp2_with (go_at_call 29; refine (RepairOf_i A c rs B M d list x y z _ hl HM.out hl2 (hr'.out.below (bl_trans hB (by go_grown))) (hs'.out.below (bl_trans hB (by go_grown))) none HO.out).mono ?_; rintro e wn ⟨v1, rfl, o1, hbn⟩; have hSz := bl_sz (bl_trans hB (by go_grown)) hbn; replace hB := bl_trans (bl_trans hB (by go_grown)) hbn; replace P := P.bel (bl_trans (by go_grown) hbn); replace Pc := P.c1; replace Q := Q.bel (bl_trans (by go_grown) hbn); replace Qc := Q.c3; obtain ⟨⟨A1, c1, rfl⟩, _⟩ := id o1; clear o1; clear hbn)
    go_ret
    exact ⟨ret_int HV.out.symm, hB⟩
  | some t =>
    have HO := Lib.hid ho
    rw [ho] at hlen
    have htl : t.length ≤ 64 := hlen
    obtain ⟨n, hn⟩ : ∃ n : Nat, countCh list t = n := ⟨_, rfl⟩
    have HN := Lib.hid (show (countCh list t : Int) = (n : Int) by rw [hn])
    have HV := Lib.hid (show costR rs list (x, y, z) = (n : Int) by unfold costR; rw [ho]; dsimp only; rw [hn])
    obtain ⟨tn, htn⟩ : ∃ tn, tn = t.length := ⟨_, rfl⟩
    have HT := Lib.hid htn
    have htn2 : tn ≤ 1048576 := by omega
    clear ho hlen hn htl htn
    go_enter Try.func30, Try.ntmps30
    go_wp2_with (first
      | (go_at_call 29; refine (RepairOf_i A c rs B M d list x y z _ hl HM.out hl2 (hr'.out.below (bl_trans hB (by go_grown))) (hs'.out.below (bl_trans hB (by go_grown))) (some t) HO.out).mono ?_; rintro e wn ⟨v1, rfl, o1, hbn⟩; have hSz := bl_sz (bl_trans hB (by go_grown)) hbn; replace hB := bl_trans (bl_trans hB (by go_grown)) hbn; replace P := P.bel (bl_trans (by go_grown) hbn); replace Pc := P.c1; replace Q := Q.bel (bl_trans (by go_grown) hbn); replace Qc := Q.c3; have o2 : OwD _ _ v1 t := o1; clear o1; obtain ⟨⟨A1, c1, rfl⟩, _⟩ := id o2; have O2 := Lib.hid o2.rd; have HS2 := Lib.hid (hs'.out.below hB); rw [← HT.out]; clear o2; clear hbn)
      | (go_at_call 36; refine (CountChanges_N B A1 M tn d c1 list t _ HM.out HT.out hl2 htn2 HS2.out O2.out n HN.out).mono ?_; rintro e wn ⟨rfl, hbn⟩; have hSz := bl_sz (bl_trans hB (by go_grown)) hbn; replace hB := bl_trans (bl_trans hB (by go_grown)) hbn; replace P := P.bel (bl_trans (by go_grown) hbn); replace Pc := P.c1; replace Q := Q.bel (bl_trans (by go_grown) hbn); replace Qc := Q.c3; clear hbn))
    go_ret
    exact ⟨ret_int HV.out.symm, hB⟩
set_option maxRecDepth 100000 in
set_option maxHeartbeats 4000000 in
theorem WorstDomino_i (A : Option Addr) (c : Nat) (rs : List Int) (B : Option Addr) (M d : Nat) (list : List Dm) (w : World) (hl : rs.length ≤ 1048576) (hM : M = list.length) (hl2 : M ≤ 1048576) (hr : RdI w A rs) (hs : RdD w B list) :
    Calls Try.prog 28 #[.agg #[.slice A rs.length c], .slice B M d] w fun e w' => e = .returned (.int .i64 (worstR rs list)) ∧ Below w.heap.size w w' := by
  have hr' := Lib.hid hr
  have hs' := Lib.hid hs
  have HM := Lib.hid hM
  (have hB := Below.refl w.heap.size w; have P := Blk.new w 31 [.slice A rs.length c]; have Pc := P.c1)
  have hlen := listT_len rs
  obtain ⟨all, hall⟩ : ∃ all, all = listT rs := ⟨_, rfl⟩
  have HA := Lib.hid hall
  rw [← hall] at hlen
  obtain ⟨n, hn⟩ : ∃ n, n = all.length := ⟨_, rfl⟩
  rw [← hn] at hlen
  have Hn := Lib.hid hn
  have hn2 : n ≤ 1048576 := by omega
  have HIT := Lib.hid (show ∀ t ∈ all, t.length ≤ 1048576 from fun t ht => by rw [hall] at ht; have := listT_item ht; omega)
  obtain ⟨ix, hix⟩ : ∃ ix, idxD all list 0 = ix := ⟨_, rfl⟩
  have HIX := Lib.hid hix
  have hneg := idxD_neg list all 0 (Int.le_refl _)
  rw [hix] at hneg
  have hLT := Lib.hid (show ∀ w : World, RdI w A rs → Calls Try.prog 106 #[.agg #[.slice A rs.length c]] w fun e w' => ∃ A' c', e = .returned (.slice A' n c') ∧ ItD w.heap.size w' A' all ∧ Below w.heap.size w w' from fun w h => by
    have := ListTilings_i A c rs w hl h
    rw [← hall, ← hn] at this
    exact this)
  have hnn := nil_ne
  have hsn := some_ne
  clear hr hs hM hn hix
  by_cases hin : list ∈ all
  · have hge : ¬ ix < 0 := fun h => (hneg.1 h) hin
    have hlt : decide (ix < 0) = false := decide_eq_false hge
    obtain ⟨fc, hfc⟩ : ∃ fc, fc = costAt all list := ⟨_, rfl⟩
    have HF := Lib.hid hfc
    have HW := Lib.hid (show worstR rs list = (wTo fc list.length).1 by unfold worstR; rw [← hall, if_pos hin, hfc])
    have hM64 : M ≤ 64 := by rw [HM.out]; rw [hall] at hin; exact listT_item hin
    clear hin hneg hge hall hfc
    go_enter Try.func28, Try.ntmps28
    go_upto_region 6 with (first
      | (go_at_call 106; refine (hLT.out _ (hr'.out.below (bl_trans hB (by go_grown)))).mono ?_; rintro e wn ⟨A1, c1, rfl, i1, hbn⟩; have hSz := bl_sz (bl_trans hB (by go_grown)) hbn; replace hB := bl_trans (bl_trans hB (by go_grown)) hbn; replace P := P.bel (bl_trans (by go_grown) hbn); replace Pc := P.c1; have I1 := Lib.hid i1; have HS1 := Lib.hid (hs'.out.below hB); clear i1; clear hbn)
      | (go_at_call 107; refine (indexIn_any _ A1 n c1 all B M d list _ Hn.out HM.out hn2 hl2 HIT.out I1.out HS1.out ix HIX.out).mono ?_; rintro e wb ⟨rfl, hbn⟩; have hSz := bl_sz (bl_trans hB (by go_grown)) hbn; replace hB := bl_trans (bl_trans hB (by go_grown)) hbn; replace P := P.bel (bl_trans (by go_grown) hbn); replace Pc := P.c1; have I2 := Lib.hid (I1.out.below hbn); have HS2 := Lib.hid (HS1.out.below hbn); clear hbn))
    have HB := Lib.hid hB
    clear hB I1 HS1 P Pc hlt
    go_loopw [6, 7, 20] (fun v m i wr => ∃ k : Nat, k ≤ M ∧ i = .int .i64 k ∧ v = .int .i64 (wTo fc k).1 ∧ m = .int .i64 (wTo fc k).2 ∧ Hid (Below wb.heap.size wb wr)) (fun _ _ i _ => M - (intOf i).toNat)
    case atStart => exact ⟨0, by omega, rfl, rfl, rfl, Lib.hid (Below.refl _ _)⟩
    case round =>
      obtain ⟨k, hk, rfl, rfl, rfl, HBk⟩ := hrel
      by_cases hlt : k < M
      · obtain ⟨ba, oa, x, y, z, rfl, hbla, hx, _, _, _, a0, a1, a2⟩ := (HS2.out.below HBk.out).at_ (k := k) (by rw [← HM.out]; exact hlt)
        have HX := Lib.hid hx
        obtain ⟨p1, hp1⟩ : ∃ p1, p1 = (wTo fc k).1 := ⟨_, rfl⟩
        obtain ⟨p2, hp2⟩ : ∃ p2, p2 = (wTo fc k).2 := ⟨_, rfl⟩
        obtain ⟨fk, hfk⟩ : ∃ fk, fk = fc k := ⟨_, rfl⟩
        have HN1 := Lib.hid (show (wTo fc (k + 1)).1 = if p2 < fk then (k : Int) else p1 by rw [wTo, ← hp2, ← hfk, hp1]; split <;> rfl)
        have HN2 := Lib.hid (show (wTo fc (k + 1)).2 = if p2 < fk then fk else p2 by rw [wTo, ← hp2, ← hfk]; split <;> first | rfl | exact hp2.symm)
        rw [← hp1, ← hp2]
        have HFK := Lib.hid hfk
        have hkM : (k : Int) < (M : Int) := by omega
        have HI3 := Lib.hid (I2.out.below HBk.out)
        have HS3 := Lib.hid (HS2.out.below HBk.out)
        obtain ⟨bo, hbo⟩ : ∃ bo, bestOf list (x, y, z) all = bo := ⟨_, rfl⟩
        have HBO := Lib.hid hbo
        have hdx := bl_alloc (Below.refl wr.heap.size wr) (.cells #[.int .i64 x, .int .i64 y, .bool z] 53)
        have HD := Lib.hid hdx
        have HI4 := Lib.hid (HI3.out.below hdx)
        have HS4 := Lib.hid (HS3.out.below hdx)
        have HB4 := Lib.hid (bl_trans HBk.out hdx)
        clear hx hp1 hp2 hfk hbo hdx
        cases bo with
        | none =>
          have hc : fk = 1000 := by rw [HFK.out, HF.out]; exact costAt_none HX.out HBO.out
          subst hc
          by_cases hp : p2 < 1000
          · have hd1 : decide ((1000 : Int) > p2) = true := decide_eq_true hp
            have HM1 := Lib.hid (show (wTo fc (k + 1)).1 = (k : Int) by rw [HN1.out, if_pos hp])
            have HM2 := Lib.hid (show (wTo fc (k + 1)).2 = 1000 by rw [HN2.out, if_pos hp])
            go_wp2_with (go_at_call 108; refine (repair_any _ A1 n c1 all (some ⟨ba, oa, none⟩) M d list x y z _ Hn.out HM.out hn2 hl2 HIT.out HI4.out HS4.out none HBO.out).mono ?_; rintro e w5 ⟨v5, rfl, rv5, hb5⟩; rcases rv5 with ⟨_, rfl⟩ | ⟨b, l, g, cc, e3, _⟩; rotate_left; cases e3; have HB5 := Lib.hid (bl_trans HB4.out hb5); clear hb5)
            go_roundw
            case rel => exact ⟨k + 1, by omega, by go_num, by rw [HM1.out], by rw [HM2.out], HB5⟩
            case measure => simp [intOf]; omega
          · have hd1 : decide ((1000 : Int) > p2) = false := decide_eq_false hp
            have HM1 := Lib.hid (show (wTo fc (k + 1)).1 = p1 by rw [HN1.out, if_neg hp])
            have HM2 := Lib.hid (show (wTo fc (k + 1)).2 = p2 by rw [HN2.out, if_neg hp])
            go_wp2_with (go_at_call 108; refine (repair_any _ A1 n c1 all (some ⟨ba, oa, none⟩) M d list x y z _ Hn.out HM.out hn2 hl2 HIT.out HI4.out HS4.out none HBO.out).mono ?_; rintro e w5 ⟨v5, rfl, rv5, hb5⟩; rcases rv5 with ⟨_, rfl⟩ | ⟨b, l, g, cc, e3, _⟩; rotate_left; cases e3; have HB5 := Lib.hid (bl_trans HB4.out hb5); clear hb5)
            go_roundw
            case rel => exact ⟨k + 1, by omega, by go_num, by rw [HM1.out], by rw [HM2.out], HB5⟩
            case measure => simp [intOf]; omega
        | some b =>
          obtain ⟨l3, hl3⟩ : ∃ l3, all[b]? = some l3 := ⟨_, List.getElem?_eq_getElem (bestTo_lt _ _ HBO.out)⟩
          have HL3 := Lib.hid hl3
          obtain ⟨n3, hn3⟩ : ∃ n3 : Nat, countCh list l3 = n3 := ⟨_, rfl⟩
          have HN3 := Lib.hid (show (countCh list l3 : Int) = (n3 : Int) by rw [hn3])
          have hc : fk = (n3 : Int) := by rw [HFK.out, HF.out, costAt_some HX.out HBO.out hl3, hn3]
          subst hc
          obtain ⟨ln, hln⟩ : ∃ ln, ln = l3.length := ⟨_, rfl⟩
          have HLN := Lib.hid hln
          have hln2 : ln ≤ 1048576 := by rw [hln]; exact HIT.out l3 (List.mem_of_getElem? hl3)
          clear hl3 hn3 hln
          by_cases hp : p2 < (n3 : Int)
          · have hd1 : decide ((n3 : Int) > p2) = true := decide_eq_true hp
            have HM1 := Lib.hid (show (wTo fc (k + 1)).1 = (k : Int) by rw [HN1.out, if_pos hp])
            have HM2 := Lib.hid (show (wTo fc (k + 1)).2 = (n3 : Int) by rw [HN2.out, if_pos hp])
            go_wp2_with (first
              | (go_at_call 108; refine (repair_any _ A1 n c1 all (some ⟨ba, oa, none⟩) M d list x y z _ Hn.out HM.out hn2 hl2 HIT.out HI4.out HS4.out (some b) HBO.out).mono ?_; rintro e w5 ⟨v5, rfl, rv5, hb5⟩; rcases rv5 with ⟨e3, _⟩ | ⟨b5, l5, g5, c5, e3, hb6, rfl, ol5⟩; cases e3; injection e3 with e3; subst e3; rw [HL3.out] at hb6; injection hb6 with hb6; subst hb6; rw [← HLN.out] at ol5 ⊢; have OL5 := Lib.hid ol5; have HS5 := Lib.hid (HS4.out.below hb5); have HB5 := Lib.hid (bl_trans HB4.out hb5); clear hb5 ol5)
              | (go_at_call 36; refine (CountChanges_N (some ⟨ba, oa, none⟩) (some ⟨g5, 0, none⟩) M ln d c5 list l3 _ HM.out HLN.out hl2 hln2 HS5.out OL5.out.rd n3 HN3.out).mono ?_; rintro e w7 ⟨rfl, hb7⟩; have HB7 := Lib.hid (bl_trans HB5.out hb7); clear hb7))
            go_roundw
            case rel => exact ⟨k + 1, by omega, by go_num, by rw [HM1.out], by rw [HM2.out], HB7⟩
            case measure => simp [intOf]; omega
          · have hd1 : decide ((n3 : Int) > p2) = false := decide_eq_false hp
            have HM1 := Lib.hid (show (wTo fc (k + 1)).1 = p1 by rw [HN1.out, if_neg hp])
            have HM2 := Lib.hid (show (wTo fc (k + 1)).2 = p2 by rw [HN2.out, if_neg hp])
            go_wp2_with (first
              | (go_at_call 108; refine (repair_any _ A1 n c1 all (some ⟨ba, oa, none⟩) M d list x y z _ Hn.out HM.out hn2 hl2 HIT.out HI4.out HS4.out (some b) HBO.out).mono ?_; rintro e w5 ⟨v5, rfl, rv5, hb5⟩; rcases rv5 with ⟨e3, _⟩ | ⟨b5, l5, g5, c5, e3, hb6, rfl, ol5⟩; cases e3; injection e3 with e3; subst e3; rw [HL3.out] at hb6; injection hb6 with hb6; subst hb6; rw [← HLN.out] at ol5 ⊢; have OL5 := Lib.hid ol5; have HS5 := Lib.hid (HS4.out.below hb5); have HB5 := Lib.hid (bl_trans HB4.out hb5); clear hb5 ol5)
              | (go_at_call 36; refine (CountChanges_N (some ⟨ba, oa, none⟩) (some ⟨g5, 0, none⟩) M ln d c5 list l3 _ HM.out HLN.out hl2 hln2 HS5.out OL5.out.rd n3 HN3.out).mono ?_; rintro e w7 ⟨rfl, hb7⟩; have HB7 := Lib.hid (bl_trans HB5.out hb7); clear hb7))
            go_roundw
            case rel => exact ⟨k + 1, by omega, by go_num, by rw [HM1.out], by rw [HM2.out], HB7⟩
            case measure => simp [intOf]; omega
      · obtain rfl : k = M := by omega
        go_wp2_with fail
        go_ret
        exact ⟨ret_int (by rw [HW.out, ← HM.out]), bl_trans HB.out HBk.out⟩
  · have hlt0 : ix < 0 := hneg.2 hin
    have hlt : decide (ix < 0) = true := decide_eq_true hlt0
    have HW := Lib.hid (show worstR rs list = -1 by unfold worstR; rw [← hall, if_neg hin])
    clear hin hneg hlt0 hall
    go_enter Try.func28, Try.ntmps28
    go_wp2_with (first
      | (go_at_call 106; refine (hLT.out _ (hr'.out.below (bl_trans hB (by go_grown)))).mono ?_; rintro e wn ⟨A1, c1, rfl, i1, hbn⟩; have hSz := bl_sz (bl_trans hB (by go_grown)) hbn; replace hB := bl_trans (bl_trans hB (by go_grown)) hbn; replace P := P.bel (bl_trans (by go_grown) hbn); replace Pc := P.c1; have I1 := Lib.hid i1; have HS1 := Lib.hid (hs'.out.below hB); clear i1; clear hbn)
      | (go_at_call 107; refine (indexIn_any _ A1 n c1 all B M d list _ Hn.out HM.out hn2 hl2 HIT.out I1.out HS1.out ix HIX.out).mono ?_; rintro e wn ⟨rfl, hbn⟩; have hSz := bl_sz (bl_trans hB (by go_grown)) hbn; replace hB := bl_trans (bl_trans hB (by go_grown)) hbn; replace P := P.bel (bl_trans (by go_grown) hbn); replace Pc := P.c1; clear hbn))
    go_ret
    exact ⟨ret_int HW.out.symm, hB⟩
end Go.Proofs.Ytdcjhfmkkcakhaa

/-
  The walk of the law FnRepairs: it returns true for all arguments; no condition. Printed by gen_fnrep.py.
-/
import Derived.Test.YtdcjhfmkkcakhaaRpl
import Derived.Test.YtdcjhfmkkcakhaaRepI
import Derived.Test.YtdcjhfmkkcakhaaTilD
import Derived.Test.YtdcjhfmkkcakhaaChanged
import Derived.Test.YtdcjhfmkkcakhaaAt
import Derived.BigQuiet
import Derived.Deep.RegionHeld3
namespace Go.Proofs.Ytdcjhfmkkcakhaa
open Go.ChangeShapes Go.WideShapes Go.ChangeAt Go.RowKit Go.Deep
set_option linter.unusedVariables false

theorem RdD.lit {w : World} {g : Nat} {x y : Int} {z : Bool} (h : Blk w g 53 [.int .i64 x, .int .i64 y, .bool z]) (hx : I64 x) (hy : I64 y) : RdD w (some ⟨g, 0, none⟩) [(x, y, z)] :=
  (Blk.ownD' (B := 0) (l := [(x, y, z)]) (cap := 1) (rest := []) h (Nat.zero_le _) (Nat.le_refl 1) (by simp [maxLen]) rfl (by intro d hd; rw [List.mem_singleton] at hd; subst hd; exact ⟨hx, hy⟩)).rd
theorem CountOne_s (g : Nat) (x y : Int) (z : Bool) (B : Option Addr) (M d : Nat) (m : List Dm) (w : World) (hM : M = m.length) (hl : M ≤ 1048576) (h : Blk w g 53 [.int .i64 x, .int .i64 y, .bool z]) (hx : I64 x) (hy : I64 y) (hs : RdD w B m) (v : Nat) (hv : countCh [(x, y, z)] m = v) :
    Calls Try.prog 32 #[.slice (some ⟨g, 0, none⟩) 1 1, .slice B M d] w fun e w' => e = .returned (.int .i64 (v : Int)) ∧ Below w.heap.size w w' := by
  subst hM; subst hv
  exact CountChanges_s (some ⟨g, 0, none⟩) B 1 d [(x, y, z)] m w (by simp) hl (RdD.lit h hx hy) hs
theorem CountChanges_in (A B : Option Addr) (N M c d : Nat) (l m : List Dm) (w : World) (hN : N = l.length) (hM : M = m.length) (hl : N ≤ 1048576) (hm : M ≤ 1048576) (hr : RdD w A l) (hs : RdD w B m) (v : Nat) (hv : countCh l m = v) :
    Calls Try.prog 36 #[.slice A N c, .slice B M d] w fun e w' => e = .returned (.int .i64 (v : Int)) ∧ Below w.heap.size w w' := by
  subst hN; subst hM; subst hv; exact CountChanges_i A B c d l m w hl hm hr hs
theorem ChangedCells_in (A B : Option Addr) (N M c d : Nat) (l m : List Dm) (w : World) (hN : N = l.length) (hM : M = m.length) (hl : N ≤ 1048576) (hm : M ≤ 1048576) (hr : RdD w A l) (hs : RdD w B m) (n : Nat) (hn : (changed l m).length = n) :
    Calls Try.prog 37 #[.slice A N c, .slice B M d] w fun e w' => ∃ A' c', e = .returned (.slice A' n c') ∧ Below w.heap.size w w' := by
  subst hN; subst hM; subst hn
  refine (ChangedCells_i A B c d l m w hl hm hr hs).mono fun e w' h => ?_
  obtain ⟨v, h1, ⟨⟨A', c', e1⟩, _⟩, h3⟩ := h
  exact ⟨A', c', by rw [h1, e1], h3⟩
theorem flips_mem {list : List Dm} {c : Cl} (h : c ∈ flipsL list) : 0 < kindD list c.1 c.2 := by
  unfold flipsL at h
  rw [mem_cellsBy] at h
  have := h.2
  rw [of_idxN h.1] at this
  simpa using this
theorem flipsL_len (list : List Dm) : (flipsL list).length ≤ 64 := cellsBy_len _ _
theorem RdD.cells_ {w : World} {b off : Nat} {l : List Dm} {k : Nat} {x y : Int} {z : Bool} (h : RdD w (some ⟨b, off, none⟩) l) (hx : l[k]? = some (x, y, z)) :
    w.cell? ⟨b, off + k * 3, none⟩ = some (.int .i64 x) ∧ w.cell? ⟨b, off + k * 3 + 1, none⟩ = some (.int .i64 y) ∧ w.cell? ⟨b, off + k * 3 + 2, none⟩ = some (.bool z) := by
  obtain ⟨b', off', x', y', z', e, _, h2, _, _, _, a0, a1, a2⟩ := h.at_ (k := k) (by obtain ⟨h3, _⟩ := List.getElem?_eq_some_iff.1 hx; exact h3)
  injection e with e
  injection e with e1 e2
  subst e1
  subst e2
  rw [hx] at h2
  injection h2 with h2
  injection h2 with h3 h2
  injection h2 with h4 h5
  subst h3
  subst h4
  subst h5
  exact ⟨a0, a1, a2⟩
theorem sortO_len (list : List Dm) (x y : Int) (z : Bool) : (sortD (flipO list x y z)).length ≤ list.length + 2 := Nat.le_trans (sortD_len _) (flipO_len list x y z)
set_option maxRecDepth 100000 in
set_option maxHeartbeats 4000000 in
theorem walk_FnRepairs (A0 : Option Addr) (c0 : Nat) (l0 : List (Int)) (w : World) (hr0 : RdB w A0 l0) (hl0 : l0.length ≤ maxLen) :
    Calls Try.prog 4 #[.slice A0 l0.length c0] w fun e w' => e = .returned (.bool true) ∧ Below w.heap.size w w' := by
  have hB := Below.refl w.heap.size w
  by_cases hbig : (l0.length : Int) > 1048576
  · have hq : decide ((l0.length : Int) > 1048576) = true := decide_eq_true hbig
    go_enter Try.func4, Try.ntmps4
    go_wp2_with (go_at_call 12; refine (big_any _ _ _ _ hl0).mono ?_; rintro e wn ⟨h1, rfl⟩; rw [hq] at h1; subst h1)
    go_ret
    exact ⟨rfl, hB⟩
  · have hq : decide ((l0.length : Int) > 1048576) = false := decide_eq_false hbig
    have hl : l0.length ≤ 1048576 := by omega
    have hr0' := Lib.hid hr0
    clear hr0 hbig
    go_enter Try.func4, Try.ntmps4
    go_wp2_with (go_at_call 12; refine (big_any _ _ _ _ hl0).mono ?_; rintro e wn ⟨h1, rfl⟩; rw [hq] at h1; subst h1)
    (refine (DrawTiling_any A0 c0 l0 _ hl hr0'.out).mono ?_; rintro e w1 ⟨A, rs, c, B, t, d, rfl, hcn, ht, o1, p1, hb1⟩)
    have hreg : regOk rs = true := (listT_yes hcn).1
    have hl1 : rs.length ≤ 1048576 := by have := (regOk_iff.1 hreg).1; omega
    have hpos : 0 < cntT rs := by have := inB_true.1 hcn; omega
    have htl : t.length ≤ 64 := tils_item _ _ ht
    have HCN := Lib.hid hcn
    have HTI := Lib.hid ht
    obtain ⟨M, hM⟩ : ∃ M, M = t.length := ⟨_, rfl⟩
    have HM := Lib.hid hM
    rw [← hM] at htl
    have hM64 : M ≤ 1048576 := by omega
    have hx := bl_alloc (Below.refl w1.heap.size w1) (.cells #[.slice A rs.length c] 31)
    have P := Blk.new w1 31 [.slice A rs.length c]
    have Pc := P.c1
    have R1 := Lib.hid (o1.below hx)
    have T1 := Lib.hid (p1.below hx)
    have hW := bl_trans (bl_trans hB hb1) hx
    rw [← hM]
    clear hcn ht o1 p1 hb1 hx hB hM
    obtain ⟨gr, hgr⟩ : ∃ gr, gr = w1.heap.size := ⟨_, rfl⟩
    obtain ⟨W, hWe⟩ : ∃ W, W = w1.alloc (.cells #[.slice A rs.length c] 31) := ⟨_, rfl⟩
    by_cases hM0 : M = 0
    · subst hM0
      have ht0 : t = [] := List.eq_nil_of_length_eq_zero HM.out.symm
      have HW := Lib.hid (show worstR rs t = -1 by rw [ht0]; exact worst_nil rs)
      clear ht0
      go_wp2_with fail
      rw [← hgr] at P Pc ⊢
      rw [← hWe] at P Pc R1 T1 hW ⊢
      clear hgr hWe
      (refine (WorstDomino_i A c rs B 0 d t _ hl1 HM.out hM64 R1.out T1.out).mono ?_; rintro e w2 ⟨rfl, hb2⟩; rw [HW.out]; replace hW := bl_trans hW hb2; clear hb2)
      go_wp2_with fail
      go_ret
      exact ⟨rfl, hW⟩
    · have hMz : ((M : Int) == 0) = false := by
        have : ¬ (M : Int) = 0 := by omega
        simpa using this
      have hMz2 : (M : Int) ≠ 0 := by omega
      obtain ⟨k0, hk, hat⟩ := atB_mod hr0'.out 0 M (by omega)
      have hat' : (atB l0 0).tmod (M : Int) = (k0 : Int) := hat
      have hkM : (k0 : Int) < (M : Int) := by omega
      have r0 := Lib.hid (hr0'.out.below hW)
      clear hat hM0
      go_upto_region 7 with (go_at_call 16; refine (at_lit A0 c0 l0 0 0 rfl _ (by omega) hl (by first | exact r0.out | (rw [hWe] at r0; exact r0.out))).mono ?_; rintro e wn ⟨rfl, rfl⟩)
      rw [← hgr] at P Pc ⊢
      rw [← hWe] at P Pc R1 T1 hW ⊢
      have hB := hW
      clear hgr hWe hW r0 hr0' hat' hMz hMz2
      obtain ⟨b, off, x, y, z, rfl, hbl, hxk, _, gx, gy, a0, a1, a2⟩ := T1.out.at_ (k := k0) (by rw [← HM.out]; exact hk)
      have HX := Lib.hid hxk
      have HG := Lib.hid (And.intro gx gy)
      have HL := Lib.hid (repairs_law HCN.out HTI.out (List.mem_of_getElem? hxk))
      obtain ⟨o, ho⟩ : ∃ o, repR rs t (x, y, z) = o := ⟨_, rfl⟩
      obtain ⟨n, hn⟩ : ∃ n, costR rs t (x, y, z) = n := ⟨_, rfl⟩
      obtain ⟨wv, hwv⟩ : ∃ wv, worstR rs t = wv := ⟨_, rfl⟩
      obtain ⟨ok, hok⟩ : ∃ ok, ok = o.isSome := ⟨_, rfl⟩
      obtain ⟨t3, ht3⟩ : ∃ t3, t3 = o.getD [] := ⟨_, rfl⟩
      obtain ⟨L3, hL3⟩ : ∃ L3, L3 = t3.length := ⟨_, rfl⟩
      obtain ⟨LF, hLF⟩ : ∃ LF, LF = (forcedL rs).length := ⟨_, rfl⟩
      obtain ⟨cf, hcf⟩ : ∃ cf, countCh [(x, y, z)] (forcedL rs) = cf := ⟨_, rfl⟩
      have hc1 : ((cf : Int) == 1) = ok := by
        have := HL.out.forced
        rw [ho, ← hok, hcf] at this
        rw [this, Bool.eq_iff_iff]; simp; omega
      have hc2 : decide (n ≥ 0) = ok := by
        have := HL.out.pos
        rw [ho, ← hok, hn] at this
        exact this.symm
      have hw0 := HL.out.worst
      rw [hwv, ← HM.out] at hw0
      have hc3 : decide (wv < 0) = false := decide_eq_false (by omega)
      have hc4 : decide (wv ≥ (M : Int)) = false := decide_eq_false (by omega)
      have hbn : (!(ok == ok)) = false := by cases ok <;> rfl
      have hL3b : L3 ≤ 1048576 := by
        have := repR_len rs t (x, y, z)
        rw [ho, ← ht3, ← hL3] at this; omega
      have hLFb : LF ≤ 1048576 := by have := forced_len rs; omega
      have HO := Lib.hid ho
      have HN := Lib.hid hn
      have HWV := Lib.hid hwv
      have HOK := Lib.hid hok
      have HT3 := Lib.hid ht3
      have HL3 := Lib.hid hL3
      have HLF := Lib.hid hLF
      have HCF := Lib.hid hcf
      have HC1 := Lib.hid hc1
      have HC2 := Lib.hid hc2
      have HC34 := Lib.hid (And.intro hc3 hc4)
      clear hxk gx gy ho hn hwv hok ht3 hL3 hLF hcf hc1 hc2 hw0 hc3 hc4
      have hR := Below.refl W.heap.size W
      go_region_held3 (fun w' => (w'.cell? ⟨gr, 0, none⟩ = some (.slice A rs.length c)) ∧ (w'.cell? ⟨b, off + k0 * 3, none⟩ = some (.int .i64 x) ∧ w'.cell? ⟨b, off + k0 * 3 + 1, none⟩ = some (.int .i64 y) ∧ w'.cell? ⟨b, off + k0 * 3 + 2, none⟩ = some (.bool z))) (go_keep)
        (first | (go_at_call 29; refine (RepairOf_i A c rs (some ⟨b, off, none⟩) M d t x y z _ hl1 HM.out hM64 (R1.out.below (by go_grown)) (T1.out.below (by go_grown)) o HO.out).mono ?_; rintro e w3 ⟨v3, rfl, o3, hb3⟩; rw [← HT3.out] at o3; rw [← HOK.out]; obtain ⟨⟨A3, c3, rfl⟩, _⟩ := id o3; rw [← HL3.out] at o3 ⊢; have O3 := Lib.hid o3.rd; replace hB := bl_trans (bl_trans hB (by go_grown)) hb3; replace P := P.bel (bl_trans (by go_grown) hb3); replace Pc := P.c1; replace R1 := Lib.hid (R1.out.below (bl_trans (by go_grown) hb3)); replace T1 := Lib.hid (T1.out.below (bl_trans (by go_grown) hb3)); obtain ⟨b0, b1, b2⟩ := T1.out.cells_ HX.out; clear o3 hb3))
      clear hR a0 a1 a2 hbl b0 b1 b2
      obtain ⟨a0, a1, a2⟩ := T1.out.cells_ HX.out
      have q0 := bq_cell Pc
      have q1 := bq_cell a0
      have q2 := bq_cell a1
      have q3 := bq_cell a2
      clear a0 a1 a2 Pc
      go_wp2_with fail
      (refine wp_region_quiet_bel (by kernel_rfl) (by kernel_rfl) ?_; (repeat (first | go_big_quiet_step ((go_at_call 30; exact Calls.bel_of ((RepairCost_i A c rs (some ⟨b, off, none⟩) M d t x y z _ hl1 HM.out hM64 (R1.out.below (BelowOf.bel _)) (T1.out.below (BelowOf.bel _))).mono (fun e w' h => ⟨h.1.trans (ret_int HN.out), h.2⟩)))) | quiet_step ((go_at_call 30; exact Calls.bel_of ((RepairCost_i A c rs (some ⟨b, off, none⟩) M d t x y z _ hl1 HM.out hM64 (R1.out.below (BelowOf.bel _)) (T1.out.below (BelowOf.bel _))).mono (fun e w' h => ⟨h.1.trans (ret_int HN.out), h.2⟩)))))); refine wpQuiet_nil ?_; intro wq hw0; obtain ⟨⟨_, hbq⟩, hw1⟩ := hw0; subst hw1; try dsimp only)
      obtain ⟨w4, rfl⟩ : ∃ w4 : World, w4 = wq := ⟨_, rfl⟩
      replace P := P.bel hbq
      have Pc := P.c1
      replace R1 := Lib.hid (R1.out.below hbq)
      replace T1 := Lib.hid (T1.out.below hbq)
      replace O3 := Lib.hid (O3.out.below hbq)
      replace hB := bl_trans hB hbq
      clear hbq q0 q1 q2 q3
      go_wp2_with fail
      (refine (ForcedDominoes_s A c rs _ hreg hpos R1.out).mono ?_; rintro e w5 ⟨v5, rfl, o5, hb5⟩; obtain ⟨⟨A5, c5, rfl⟩, _⟩ := id o5; rw [← HLF.out] at o5 ⊢; replace P := P.bel hb5; replace Pc := P.c1; replace R1 := Lib.hid (R1.out.below hb5); replace T1 := Lib.hid (T1.out.below hb5); replace O3 := Lib.hid (O3.out.below hb5); replace hB := bl_trans hB hb5; have F5 := Lib.hid o5.rd; clear o5; clear hb5)
      go_wp2_with fail
      (refine (WorstDomino_i A c rs (some ⟨b, off, none⟩) M d t _ hl1 HM.out hM64 R1.out T1.out).mono ?_; rintro e w6 ⟨rfl, hb6⟩; rw [HWV.out]; replace P := P.bel hb6; replace Pc := P.c1; replace R1 := Lib.hid (R1.out.below hb6); replace T1 := Lib.hid (T1.out.below hb6); replace O3 := Lib.hid (O3.out.below hb6); replace F5 := Lib.hid (F5.out.below hb6); replace hB := bl_trans hB hb6; clear hb6)
      obtain ⟨a0, a1, a2⟩ := T1.out.cells_ HX.out
      have hc1 := HC1.out
      have hc2 := HC2.out
      have hc3 := HC34.out.1
      have hc4 := HC34.out.2
      have hgx := HG.out.1
      have hgy := HG.out.2
      go_upto_region 13 with (go_at_call 32; refine (CountOne_s _ x y z A5 LF c5 (forcedL rs) _ HLF.out hLFb (Blk.new _ _ _) hgx hgy (F5.out.below (bl_alloc (Below.refl _ _) _)) cf HCF.out).mono ?_; rintro e w7 ⟨rfl, hb7⟩; have hx7 := bl_trans (bl_alloc (Below.refl _ _) _) hb7; replace P := P.bel hx7; replace Pc := P.c1; replace R1 := Lib.hid (R1.out.below hx7); replace T1 := Lib.hid (T1.out.below hx7); replace O3 := Lib.hid (O3.out.below hx7); replace hB := bl_trans hB hx7; clear hb7 hx7)
      clear a0 a1 a2 hc1 hc2 hc3 hc4 hbn
      obtain ⟨LL, hLL⟩ : ∃ LL, LL = (flipsL t).length := ⟨_, rfl⟩
      have hLL64 : LL ≤ 64 := by rw [hLL]; exact flipsL_len t
      have HLL := Lib.hid hLL
      clear hLL
      go_wp2_with fail
      (refine (FlipsOf_s (some ⟨b, off, none⟩) M d t _ HM.out hM64 T1.out).mono ?_; rintro e w8 ⟨v8, rfl, o8, hb8⟩; obtain ⟨⟨A8, c8, rfl⟩, _⟩ := id o8; rw [← HLL.out] at o8 ⊢; replace P := P.bel hb8; replace Pc := P.c1; replace R1 := Lib.hid (R1.out.below hb8); replace T1 := Lib.hid (T1.out.below hb8); replace O3 := Lib.hid (O3.out.below hb8); replace hB := bl_trans hB hb8; have F8 := Lib.hid o8.rd; clear o8; clear hb8)
      go_wp2_with fail
      have HP := Lib.hid P
      have HB := Lib.hid hB
      clear P Pc hB
      go_loopw [12] (fun i wr => ∃ j : Nat, j ≤ LL ∧ i = .int .i64 j ∧ Hid (Blk wr gr 31 [.slice A rs.length c]) ∧ Hid (RdI wr A rs) ∧ Hid (RdD wr (some ⟨b, off, none⟩) t) ∧ Hid (RdD wr A3 t3) ∧ Hid (RdC wr A8 (flipsL t)) ∧ Hid (Below w.heap.size w wr)) (fun i _ => LL - (intOf i).toNat)
      case atStart => exact ⟨0, by omega, rfl, HP, R1, T1, O3, F8, HB⟩
      case round =>
        obtain ⟨j, hj, rfl, HPj, R1j, T1j, O3j, F8j, HBj⟩ := hrel
        clear HP R1 T1 O3 F8 HB
        have P := HPj.out
        have Pc := P.c1
        have hB := HBj.out
        by_cases hlt : j < LL
        · obtain ⟨bc, oc, x', y', rfl, hblc, hxy, _, _, _, e0, e1⟩ := F8j.out.at_ (k := j) (by rw [← HLL.out]; exact hlt)
          have hkN : (j : Int) < (LL : Int) := by omega
          obtain ⟨kq, hkq⟩ : ∃ kq, kindD t x' y' = kq := ⟨_, rfl⟩
          have h0 : 0 < kq := by rw [← hkq]; exact flips_mem (List.mem_of_getElem? hxy)
          obtain ⟨zq, hzq⟩ : ∃ zq, (kq == 2) = zq := ⟨_, rfl⟩
          have hk12 := (kind_has hkq h0 hzq).1
          have hfl := HL.out.flip x' y' kq zq hkq h0 hzq
          have HKQ := Lib.hid hkq
          have HZQ := Lib.hid hzq
          obtain ⟨S, hS⟩ : ∃ S, S = sortD (flipO t x' y' zq) := ⟨_, rfl⟩
          obtain ⟨LS, hLS⟩ : ∃ LS, LS = S.length := ⟨_, rfl⟩
          have hLSb : LS ≤ 1048576 := by
            have := sortO_len t x' y' zq
            rw [← hS, ← hLS, ← HM.out] at this; omega
          have HS := Lib.hid hS
          have HLS := Lib.hid hLS
          obtain ⟨cc, hcc⟩ : ∃ cc, countCh [(x, y, z)] S = cc := ⟨_, rfl⟩
          have HCC := Lib.hid hcc
          have hM1000 : M ≤ 1000 := by omega
          have hgx := HG.out.1
          have hgy := HG.out.2
          rw [← hS, hcc, HN.out] at hfl
          clear hkq h0 hzq hS hLS hcc hxy
          by_cases hc1 : cc = 1
          · have hn2 := hfl hc1
            have hcq : ((cc : Int) == 1) = true := by rw [hc1]; rfl
            have hnq : (n == 2) = true := by rw [hn2]; rfl
            have hnq2 : (n != 2) = false := by rw [hn2]; rfl
            clear hfl hc1 hn2
            go_wp2_with (first | (go_at_call 34; refine (FlipAt_s (some ⟨b, off, none⟩) M d t x' y' _ HM.out hM1000 T1j.out kq HKQ.out hk12 zq HZQ.out).mono ?_; rintro e w9 ⟨v9, rfl, o9, hb9⟩; rw [← HS.out] at o9; obtain ⟨⟨A9, c9, rfl⟩, _⟩ := id o9; rw [← HLS.out] at o9 ⊢; replace P := P.bel hb9; replace Pc := P.c1; replace R1j := Lib.hid (R1j.out.below hb9); replace T1j := Lib.hid (T1j.out.below hb9); replace O3j := Lib.hid (O3j.out.below hb9); replace F8j := Lib.hid (F8j.out.below hb9); replace hB := bl_trans hB hb9; have S9 := Lib.hid o9.rd; obtain ⟨a0, a1, a2⟩ := T1j.out.cells_ HX.out; clear o9; clear hb9) | (go_at_call 32; refine (CountOne_s _ x y z A9 LS c9 S _ HLS.out hLSb (Blk.new _ _ _) hgx hgy (S9.out.below (bl_alloc (Below.refl _ _) _)) cc HCC.out).mono ?_; rintro e w10 ⟨rfl, hb10⟩; have hx10 := bl_trans (bl_alloc (Below.refl _ _) _) hb10; replace P := P.bel hx10; replace Pc := P.c1; replace R1j := Lib.hid (R1j.out.below hx10); replace T1j := Lib.hid (T1j.out.below hx10); replace O3j := Lib.hid (O3j.out.below hx10); replace F8j := Lib.hid (F8j.out.below hx10); replace hB := bl_trans hB hx10; clear hb10 hx10))
            go_roundw
            case rel => exact ⟨j + 1, by omega, by go_num, Lib.hid P, R1j, T1j, O3j, F8j, Lib.hid hB⟩
            case measure => simp [intOf]; omega
          · have hcq : ((cc : Int) == 1) = false := by
              have : ¬ (cc : Int) = 1 := by omega
              simpa using this
            clear hfl hc1
            go_wp2_with (first | (go_at_call 34; refine (FlipAt_s (some ⟨b, off, none⟩) M d t x' y' _ HM.out hM1000 T1j.out kq HKQ.out hk12 zq HZQ.out).mono ?_; rintro e w9 ⟨v9, rfl, o9, hb9⟩; rw [← HS.out] at o9; obtain ⟨⟨A9, c9, rfl⟩, _⟩ := id o9; rw [← HLS.out] at o9 ⊢; replace P := P.bel hb9; replace Pc := P.c1; replace R1j := Lib.hid (R1j.out.below hb9); replace T1j := Lib.hid (T1j.out.below hb9); replace O3j := Lib.hid (O3j.out.below hb9); replace F8j := Lib.hid (F8j.out.below hb9); replace hB := bl_trans hB hb9; have S9 := Lib.hid o9.rd; obtain ⟨a0, a1, a2⟩ := T1j.out.cells_ HX.out; clear o9; clear hb9) | (go_at_call 32; refine (CountOne_s _ x y z A9 LS c9 S _ HLS.out hLSb (Blk.new _ _ _) hgx hgy (S9.out.below (bl_alloc (Below.refl _ _) _)) cc HCC.out).mono ?_; rintro e w10 ⟨rfl, hb10⟩; have hx10 := bl_trans (bl_alloc (Below.refl _ _) _) hb10; replace P := P.bel hx10; replace Pc := P.c1; replace R1j := Lib.hid (R1j.out.below hx10); replace T1j := Lib.hid (T1j.out.below hx10); replace O3j := Lib.hid (O3j.out.below hx10); replace F8j := Lib.hid (F8j.out.below hx10); replace hB := bl_trans hB hx10; clear hb10 hx10))
            go_roundw
            case rel => exact ⟨j + 1, by omega, by go_num, Lib.hid P, R1j, T1j, O3j, F8j, Lib.hid hB⟩
            case measure => simp [intOf]; omega
        · obtain rfl : j = LL := by omega
          cases ok with
          | false =>
            go_wp2_with fail
            go_ret
            exact ⟨rfl, hB⟩
          | true =>
            have ho3 : o = some t3 := by
              cases ho : o with
              | none => have := HOK.out; rw [ho] at this; cases this
              | some q => have := HT3.out; rw [ho] at this; rw [this]; rfl
            obtain ⟨f1, f2, f3, f4, f5, f6, f7⟩ := HL.out.all t3 (HO.out.trans ho3)
            rw [HN.out] at f2 f3
            obtain ⟨N, hN⟩ : ∃ N, countCh t t3 = N := ⟨_, rfl⟩
            rw [hN] at f3 f5 f6 f7
            subst f3
            obtain ⟨n2, hn2⟩ : ∃ n2, n2 = 2 * N := ⟨_, rfl⟩
            rw [← hn2] at f5 f6
            have hge : decide ((N : Int) ≥ 2) = true := decide_eq_true f2
            obtain ⟨u, hu⟩ : ∃ u, u = 1 := ⟨1, rfl⟩
            rw [← hu] at f4
            have huq : ((u : Int) == 1) = true := by rw [hu]; rfl
            have hmq : ((n2 : Int) == 2 * (N : Int)) = true := by
              have : (n2 : Int) = 2 * (N : Int) := by omega
              simpa using this
            have hN64 : (N : Int) ≤ 64 := by omega
            have HF1 := Lib.hid f1
            have HF4 := Lib.hid f4
            have HF5 := Lib.hid f5
            have HF6 := Lib.hid f6
            have HNN := Lib.hid hN
            have hgx := HG.out.1
            have hgy := HG.out.2
            obtain ⟨a0, a1, a2⟩ := T1j.out.cells_ HX.out
            clear f1 f4 f5 f6 hN hn2 hu ho3
            go_wp2_with (first | (go_at_call 35; refine (IsTiling_s A c rs A3 L3 c3 t3 _ hl1 HL3.out hL3b R1j.out O3j.out).mono ?_; rintro e w11 ⟨rfl, hb11⟩; rw [HF1.out]; replace P := P.bel hb11; replace Pc := P.c1; replace R1j := Lib.hid (R1j.out.below hb11); replace T1j := Lib.hid (T1j.out.below hb11); replace O3j := Lib.hid (O3j.out.below hb11); replace hB := bl_trans hB hb11; clear a0 a1 a2; obtain ⟨a0, a1, a2⟩ := T1j.out.cells_ HX.out; clear hb11) | (go_at_call 36; refine (CountChanges_in (some ⟨b, off, none⟩) A3 M L3 d c3 t t3 _ HM.out HL3.out hM64 hL3b T1j.out O3j.out N HNN.out).mono ?_; rintro e w12 ⟨rfl, hb12⟩; replace P := P.bel hb12; replace Pc := P.c1; replace R1j := Lib.hid (R1j.out.below hb12); replace T1j := Lib.hid (T1j.out.below hb12); replace O3j := Lib.hid (O3j.out.below hb12); replace hB := bl_trans hB hb12; clear a0 a1 a2; obtain ⟨a0, a1, a2⟩ := T1j.out.cells_ HX.out; clear hb12) | (go_at_call 32; refine (CountOne_s _ x y z A3 L3 c3 t3 _ HL3.out hL3b (Blk.new _ _ _) hgx hgy (O3j.out.below (bl_alloc (Below.refl _ _) _)) u HF4.out).mono ?_; rintro e w13 ⟨rfl, hb13⟩; have hx13 := bl_trans (bl_alloc (Below.refl _ _) _) hb13; replace P := P.bel hx13; replace Pc := P.c1; replace R1j := Lib.hid (R1j.out.below hx13); replace T1j := Lib.hid (T1j.out.below hx13); replace O3j := Lib.hid (O3j.out.below hx13); replace hB := bl_trans hB hx13; clear hb13 hx13) | (go_at_call 37; (with_reducible refine (ChangedCells_in (some ⟨b, off, none⟩) A3 M L3 d c3 t t3 _ HM.out HL3.out hM64 hL3b T1j.out O3j.out n2 HF5.out).mono ?_); rintro e w14 ⟨A14, c14, rfl, hb14⟩; replace P := P.bel hb14; replace Pc := P.c1; replace R1j := Lib.hid (R1j.out.below hb14); replace T1j := Lib.hid (T1j.out.below hb14); replace O3j := Lib.hid (O3j.out.below hb14); replace hB := bl_trans hB hb14; clear hb14) | (go_at_call 37; refine (ChangedCells_in A3 (some ⟨b, off, none⟩) L3 M c3 d t3 t _ HL3.out HM.out hL3b hM64 O3j.out T1j.out n2 HF6.out).mono ?_; rintro e w15 ⟨A15, c15, rfl, hb15⟩; replace P := P.bel hb15; replace Pc := P.c1; replace R1j := Lib.hid (R1j.out.below hb15); replace T1j := Lib.hid (T1j.out.below hb15); replace O3j := Lib.hid (O3j.out.below hb15); replace hB := bl_trans hB hb15; clear hb15))
            go_ret
            exact ⟨rfl, hB⟩
end Go.Proofs.Ytdcjhfmkkcakhaa

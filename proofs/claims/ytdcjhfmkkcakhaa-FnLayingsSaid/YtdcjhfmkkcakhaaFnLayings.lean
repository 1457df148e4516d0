/-
  The walk of the law FnLayings: it returns true for all arguments; no condition.
-/
import Derived.Test.YtdcjhfmkkcakhaaPieS
import Derived.Test.YtdcjhfmkkcakhaaTilD
import Derived.Test.YtdcjhfmkkcakhaaAt
import Derived.BigQuiet
import Derived.Deep.RegionHeld3
namespace Go.Proofs.Ytdcjhfmkkcakhaa
open Go.ChangeShapes Go.WideShapes Go.ChangeAt Go.RowKit Go.Deep
set_option linter.unusedVariables false

theorem OwD.cap_ {B : Nat} {w : World} {A : Option Addr} {n c : Nat} {l : List Dm} (h : OwD B w (.slice A n c) l) : n ≤ c := by
  rcases h.2.1.2 with ⟨h1, h2⟩ | ⟨g, cap, cur, h1, _, _, h2, _⟩
  · injection h1 with _ h1 h3; omega
  · injection h1 with _ h1 h3; omega
theorem RdD.nx_ {w : World} {A : Option Addr} {l : List Dm} (h : RdD w A l) {k : Nat} (hk : k ≤ l.length) : RdD w A (l.take k) := h.take_ hk
set_option maxRecDepth 100000 in
set_option maxHeartbeats 4000000 in
theorem walk_FnLayings (A0 : Option Addr) (c0 : Nat) (l0 : List (Int)) (w : World) (hr0 : RdB w A0 l0) (hl0 : l0.length ≤ maxLen) :
    Calls Try.prog 11 #[.slice A0 l0.length c0] w fun e w' => e = .returned (.bool true) ∧ Below w.heap.size w w' := by
  have hB := Below.refl w.heap.size w
  by_cases hbig : (l0.length : Int) > 1048576
  · have hq : decide ((l0.length : Int) > 1048576) = true := decide_eq_true hbig
    go_enter Try.func11, Try.ntmps11
    go_wp2_with (go_at_call 12; refine (big_any _ _ _ _ hl0).mono ?_; rintro e wn ⟨h1, rfl⟩; rw [hq] at h1; subst h1)
    go_ret
    exact ⟨rfl, hB⟩
  · have hq : decide ((l0.length : Int) > 1048576) = false := decide_eq_false hbig
    have hl : l0.length ≤ 1048576 := by omega
    have hr0' := Lib.hid hr0
    clear hr0 hbig
    go_enter Try.func11, Try.ntmps11
    go_wp2_with (go_at_call 12; refine (big_any _ _ _ _ hl0).mono ?_; rintro e wn ⟨h1, rfl⟩; rw [hq] at h1; subst h1)
    (refine (DrawTiling_any A0 c0 l0 _ hl hr0'.out).mono ?_; rintro e w1 ⟨A, rs, c, B, t, d, rfl, hcn, ht, o1, p1, hb1⟩)
    have hreg : regOk rs = true := by
      cases h : regOk rs with
      | true => rfl
      | false => rw [show cntT rs = 0 by rw [cntT, h]; rfl] at hcn; exact absurd hcn (by decide)
    have htil := (tils_iff hreg t).1 ht
    have hl1 : rs.length ≤ 1048576 := by have := (regOk_iff.1 hreg).1; omega
    have htl : t.length ≤ 1048576 := by
      have h1 := isTiling_len (rs := rs) (l := t)
      rw [htil] at h1
      have h2 := h1.symm
      rw [Bool.and_eq_true, decide_eq_true_eq] at h2
      have := regCells_len rs
      omega
    have Htil := Lib.hid htil
    have HREG := Lib.hid hreg
    have hx := bl_alloc (Below.refl w1.heap.size w1) (.cells #[.slice A rs.length c] 31)
    have P := Blk.new w1 31 [.slice A rs.length c]
    have Pc := P.c1
    have R1 := Lib.hid (o1.below hx)
    have T1 := Lib.hid (p1.below hx)
    have hW := bl_trans (bl_trans hB hb1) hx
    clear hcn ht htil hreg o1 p1 hb1 hx hB
    obtain ⟨L, hL⟩ : ∃ L, L = regCells rs := ⟨_, rfl⟩
    obtain ⟨D, hD⟩ : ∃ D, D = doors rs := ⟨_, rfl⟩
    have HL := Lib.hid hL
    have HD := Lib.hid hD
    obtain ⟨gr, hgr⟩ : ∃ gr, gr = w1.heap.size := ⟨_, rfl⟩
    obtain ⟨W, hWe⟩ : ∃ W, W = w1.alloc (.cells #[.slice A rs.length c] 31) := ⟨_, rfl⟩
    clear hL hD
    go_wp2_with fail
    rw [← hgr] at P Pc ⊢
    rw [← hWe] at P Pc R1 T1 hW ⊢
    clear hgr hWe
    have hB := hW
    clear hW
    (refine (CellsOf_s A c rs _ hl1 R1.out).mono ?_; rintro e w2 ⟨v2, rfl, o2, hb2⟩; obtain ⟨⟨A2, c2, rfl⟩, _⟩ := id o2; rw [← HL.out] at o2 ⊢; have C2 := Lib.hid o2.rd; replace P := P.bel hb2; replace Pc := P.c1; replace R1 := Lib.hid (R1.out.below hb2); replace T1 := Lib.hid (T1.out.below hb2); replace hB := bl_trans hB hb2; clear o2 hb2)
    go_wp2_with fail
    (refine (DoorsOf_i A c rs _ hl1 R1.out).mono ?_; rintro e w3 ⟨v3, rfl, o3, hb3⟩; obtain ⟨⟨A3, c3, rfl⟩, _⟩ := id o3; rw [← HD.out] at o3 ⊢; have D3 := Lib.hid o3.rd; replace P := P.bel hb3; replace Pc := P.c1; replace R1 := Lib.hid (R1.out.below hb3); replace T1 := Lib.hid (T1.out.below hb3); replace C2 := Lib.hid (C2.out.below hb3); replace hB := bl_trans hB hb3; clear o3 hb3)
    by_cases hL0 : L.length = 0
    · have hD0 : D.length = 0 := by
        have h1 : regCells rs = [] := List.eq_nil_of_length_eq_zero (by rw [← HL.out]; exact hL0)
        rw [HD.out, doors, h1]; rfl
      rw [hL0, hD0]
      go_wp2_with fail
      go_ret
      exact ⟨rfl, hB⟩
    · obtain ⟨k0, hk, hat⟩ := atB_mod hr0'.out 0 L.length (by omega)
      have hLl : L.length ≤ 64 := by rw [HL.out]; exact regCells_len rs
      have hat' : (atB l0 0).tmod (L.length : Int) = (k0 : Int) := hat
      have hLz : (L.length : Int) ≠ 0 := by omega
      have hLq : ((L.length : Int) == 0) = false := by simpa using hLz
      obtain ⟨bc, oc, x, y, rfl, hblc, hxy, _, g1, g2, e0, e1⟩ := C2.out.at_ (k := k0) hk
      have hmem := List.mem_of_getElem? hxy
      rw [HL.out, regCells_set HREG.out, mem_cellsBy] at hmem
      obtain ⟨hok, hbit⟩ := hmem
      have hdoor : (regOk rs && cellOk x y && regHas rs x y) = true := by rw [HasCell_bit HREG.out hok]; exact hbit
      have Hdoor := Lib.hid hdoor
      have hkL : (k0 : Int) < (L.length : Int) := by omega
      have hdne : 0 < D.length := by
        have hm : cellOf (lowb (regSet rs)) ∈ D := by
          rw [HD.out]
          exact door_low HREG.out (regSet_ne HREG.out (by intro e; apply hL0; rw [HL.out, e]; rfl))
        exact List.length_pos_of_mem hm
      have hDge : decide ((D.length : Int) ≥ 1) = true := decide_eq_true (by omega)
      have hDg2 : decide ((1 : Int) ≤ (D.length : Int)) = true := decide_eq_true (by omega)
      have hDg0 : (0 : Int) < (D.length : Int) := by omega
      have Hok := Lib.hid hok
      clear hat hxy hdoor hok hbit hL0
      have r0 := Lib.hid (hr0'.out.below hB)
      go_upto_region 9 with (go_at_call 16; refine (at_lit A0 c0 l0 0 0 rfl _ (by omega) hl r0.out).mono ?_; rintro e wn ⟨rfl, rfl⟩)
      have hx := bl_alloc (Below.refl w3.heap.size w3) (.cells #[.int .i64 x, .int .i64 y] 35)
      have Q := Blk.new w3 35 [.int .i64 x, .int .i64 y]
      replace P := P.alloc (.cells #[.int .i64 x, .int .i64 y] 35)
      replace R1 := Lib.hid (R1.out.below hx)
      replace T1 := Lib.hid (T1.out.below hx)
      replace D3 := Lib.hid (D3.out.below hx)
      replace hB := bl_trans hB hx
      obtain ⟨gd, hgd⟩ : ∃ gd, gd = w3.heap.size := ⟨_, rfl⟩
      obtain ⟨W4, hW4⟩ : ∃ W4, W4 = w3.alloc (.cells #[.int .i64 x, .int .i64 y] 35) := ⟨_, rfl⟩
      rw [← hgd] at Q ⊢
      rw [← hW4] at P Q R1 T1 D3 hB ⊢
      clear hgd hW4 hx C2 hblc e0 e1 r0
      replace Pc := P.c1
      have Qc := Q.c2
      cases hf : findLay rs (x, y) t with
      | none =>
        have hne : cntPieces rs ≠ 1 := fun h1 => by
          have := one_piece (c := (x, y)) h1 Htil.out Hdoor.out
          rw [hf] at this; cases this
        obtain ⟨n, hn⟩ : ∃ n, n = cntPieces rs := ⟨_, rfl⟩
        have Hn := Lib.hid hn
        rw [← hn] at hne
        have hn1 : ((n : Int) == 1) = false := by
          have : (n : Int) ≠ 1 := by omega
          simpa using this
        have Hf := Lib.hid hf
        clear hn hne hf
        go_wp2_with fail
        (refine (FindLaying_i A c rs x y B t.length d t _ hl1 rfl htl R1.out T1.out).mono ?_; rintro e w5 ⟨v5, rfl, o5, hb5⟩; rw [Hf.out] at o5 ⊢; obtain ⟨A5, c5, rfl⟩ := o5.1; replace P := P.bel hb5; replace Q := Q.bel hb5; replace Pc := P.c1; replace Qc := Q.c2; replace R1 := Lib.hid (R1.out.below hb5); replace T1 := Lib.hid (T1.out.below hb5); replace D3 := Lib.hid (D3.out.below hb5); replace hB := bl_trans hB hb5; clear o5 hb5)
        go_wp2_with (go_at_call 80; refine (CountPieces_s A c rs _ hl1 R1.out).mono ?_; rintro e w6 ⟨rfl, hb6⟩; rw [← Hn.out]; replace P := P.bel hb6; replace Q := Q.bel hb6; replace Pc := P.c1; replace Qc := Q.c2; replace R1 := Lib.hid (R1.out.below hb6); replace T1 := Lib.hid (T1.out.below hb6); replace D3 := Lib.hid (D3.out.below hb6); replace hB := bl_trans hB hb6; clear hb6)
        obtain ⟨bd, od, du, dv, rfl, hbld, hduv, _, _, _, dd0, dd1⟩ := D3.out.at_ (k := 0) hdne
        have hdin := doors_in (by rw [← HD.out]; exact List.mem_of_getElem? hduv : (du, dv) ∈ doors rs)
        rw [regCells_set HREG.out, mem_cellsBy] at hdin
        have hdh : (regOk rs && cellOk du dv && regHas rs du dv) = true := by rw [HasCell_bit HREG.out hdin.1]; exact hdin.2
        have Hdh := Lib.hid hdh
        have p0 := bq_cell Pc
        have p1 := bq_cell (p := ⟨bd, od, none⟩) dd0
        have p2 := bq_cell (p := ⟨bd, od + 1, none⟩) dd1
        clear hduv hdin hdh Pc dd0 dd1
        go_wp2_with fail
        (refine wp_region_quiet_bel (by kernel_rfl) (by kernel_rfl) ?_; (repeat (first | go_big_quiet_step ((go_at_call 84; exact Calls.bel_of ((HasCell_s A c rs du dv _ hl1 (R1.out.below (BelowOf.bel _))).mono (fun e w' h => ⟨h.1.trans (ret_bool Hdh.out), h.2⟩)))) | quiet_step ((go_at_call 84; exact Calls.bel_of ((HasCell_s A c rs du dv _ hl1 (R1.out.below (BelowOf.bel _))).mono (fun e w' h => ⟨h.1.trans (ret_bool Hdh.out), h.2⟩)))))); refine wpQuiet_nil ?_; intro wq hw0; obtain ⟨⟨_, hbq⟩, hw1⟩ := hw0; subst hw1; try dsimp only)
        go_wp2_with fail
        go_ret
        exact ⟨rfl, bl_trans hB hbq⟩
      | some o =>
        obtain ⟨f1, f2, f3, f4, f5⟩ := find_lay hf
        have hfl : o.length ≤ 1048576 := by rw [f2]; exact htl
        obtain ⟨M, hM⟩ : ∃ M, o.length = M + 1 := ⟨o.length - 1, by have := List.length_pos_iff.2 f3; omega⟩
        obtain ⟨u, v, z, huv⟩ : ∃ u v z, o[M]? = some (u, v, z) := ⟨_, _, _, List.getElem?_eq_getElem (by omega)⟩
        obtain ⟨f6, f7⟩ := f4 (u, v, z) (by rw [List.getLast?_eq_getElem?, hM]; exact huv)
        have f8 := f5 M _ huv
        have Hf := Lib.hid hf
        have HL1 := Lib.hid f1
        have HC := Lib.hid f8
        have HD6 := Lib.hid f6
        have hMt : (t.length : Int) = (M : Int) + 1 := by omega
        have HM := Lib.hid hM
        have Hft := Lib.hid (show t.length = M + 1 by omega)
        obtain ⟨s1, hs1⟩ : ∃ s1, s1 = sndX u z := ⟨_, rfl⟩
        obtain ⟨s2, hs2⟩ : ∃ s2, s2 = sndY v z := ⟨_, rfl⟩
        have HCU := Lib.hid (show ∀ w : World, Calls Try.prog 82 #[.agg #[.int .i64 u, .int .i64 v, .bool z]] w fun e w' => e = .returned (.tuple #[.agg #[.int .i64 u, .int .i64 v], .agg #[.int .i64 s1, .int .i64 s2]]) ∧ Below w.heap.size w w' from fun w => by rw [hs1, hs2]; exact CellsUnder_yes u v z w f6)
        obtain ⟨b1, hb1⟩ : ∃ b1 : Bool, (u == x && v == y) = b1 := ⟨_, rfl⟩
        obtain ⟨b2, hb2⟩ : ∃ b2 : Bool, (s1 == x && s2 == y) = b2 := ⟨_, rfl⟩
        have hbb : b1 = true ∨ b2 = true := by
          rcases f7 with e | e
          · left; rw [← hb1]
            have e1 : x = u := congrArg Prod.fst e
            have e2 : y = v := congrArg Prod.snd e
            rw [e1, e2]; simp
          · right; rw [← hb2, hs1, hs2]
            have e1 : x = sndX u z := congrArg Prod.fst e
            have e2 : y = sndY v z := congrArg Prod.snd e
            rw [← e1, ← e2]; simp
        have hcp : ∃ b3 : Bool, ((cntPieces rs : Int) == 1) = b3 := ⟨_, rfl⟩
        obtain ⟨b3, hb3⟩ := hcp
        obtain ⟨n, hn⟩ : ∃ n, n = cntPieces rs := ⟨_, rfl⟩
        rw [← hn] at hb3
        have Hn := Lib.hid hn
        have hne := neq_cell
        have hM0 : IntKind.i64.wrap (((M + 1 : Nat) : Int) - 1) = (M : Int) := by rw [wrap_i64, IntWalk.wrap64_in _ (by omega)]; omega
        have hMM : (!(((M + 1 : Nat) : Int) == ((M + 1 : Nat) : Int))) = false := by simp
        clear hf f1 f2 f3 f4 f5 f6 f7 f8 hs1 hs2 hn hM
        go_wp2_with fail
        (refine (FindLaying_i A c rs x y B t.length d t _ hl1 rfl htl R1.out T1.out).mono ?_; rintro e w5 ⟨v5, rfl, o5, hb5⟩; rw [Hf.out] at o5 ⊢; have o6 : OwD W4.heap.size w5 v5 o := o5; clear o5; obtain ⟨A5, c5, rfl⟩ := o6.1; have hcap := Lib.hid o6.cap_; have O5 := Lib.hid o6.rd; rw [HM.out]; replace P := P.bel hb5; replace Q := Q.bel hb5; replace Pc := P.c1; replace Qc := Q.c2; replace R1 := Lib.hid (R1.out.below hb5); replace T1 := Lib.hid (T1.out.below hb5); replace D3 := Lib.hid (D3.out.below hb5); replace hB := bl_trans hB hb5; clear o6 hb5)
        have hcap2 : M + 1 ≤ c5 := by rw [← HM.out]; exact hcap.out
        have hM1 : M + 1 ≤ 1048576 := by omega
        have Huv := Lib.hid huv
        have hbb' : b1 = true ∨ (b1 = false ∧ b2 = true) := by
          rcases hbb with e | e
          · exact .inl e
          · cases b1
            · exact .inr ⟨rfl, e⟩
            · exact .inl rfl
        have Hbb := Lib.hid hbb'
        have Hb1 := Lib.hid hb1
        have Hb2 := Lib.hid hb2
        clear huv hbb hbb' hb1 hb2
        cases b3
        all_goals
          go_upto_region 13 with (first
            | (go_at_call 80; refine (CountPieces_s A c rs _ hl1 R1.out).mono ?_; rintro e w6 ⟨rfl, hb6⟩; rw [← Hn.out]; replace P := P.bel hb6; replace Q := Q.bel hb6; replace Pc := P.c1; replace Qc := Q.c2; replace R1 := Lib.hid (R1.out.below hb6); replace T1 := Lib.hid (T1.out.below hb6); replace D3 := Lib.hid (D3.out.below hb6); replace O5 := Lib.hid (O5.out.below hb6); replace hB := bl_trans hB hb6; clear hb6)
            | (go_at_call 81; refine (IsLayingOrder_i A c rs x y A5 (M + 1) c5 o _ hl1 HM.out.symm hM1 hcap2 R1.out O5.out).mono ?_; rintro e w7 ⟨rfl, hb7⟩; rw [HL1.out]; replace P := P.bel hb7; replace Q := Q.bel hb7; replace Pc := P.c1; replace Qc := Q.c2; replace R1 := Lib.hid (R1.out.below hb7); replace T1 := Lib.hid (T1.out.below hb7); replace D3 := Lib.hid (D3.out.below hb7); replace O5 := Lib.hid (O5.out.below hb7); replace hB := bl_trans hB hb7; clear hb7))
          obtain ⟨bo, oo, u', v', z', rfl, hblo, huv', _, _, _, o0, o1, o2⟩ := O5.out.at_ (k := M) (by rw [HM.out]; omega)
          have euv := Huv.out.symm.trans huv'
          injection euv with euv
          injection euv with e1 euv
          injection euv with e2 e3
          subst e1
          subst e2
          subst e3
          have hMi : (M : Int) < ((M + 1 : Nat) : Int) := by omega
          have hMi2 : (M : Int) < (M : Int) + 1 := by omega
          clear huv'
          go_upto_region 14 with (go_at_call 82; refine (HCU.out _).mono ?_; rintro e w8 ⟨rfl, hb8⟩; replace o0 := (hb8.cell hblo).trans o0; replace o1 := (hb8.cell hblo).trans o1; replace o2 := (hb8.cell hblo).trans o2; replace P := P.bel hb8; replace Q := Q.bel hb8; replace Pc := P.c1; replace Qc := Q.c2; replace R1 := Lib.hid (R1.out.below hb8); replace T1 := Lib.hid (T1.out.below hb8); replace D3 := Lib.hid (D3.out.below hb8); replace O5 := Lib.hid (O5.out.below hb8); replace hB := bl_trans hB hb8; clear hb8)
          have E := (Blk.new w8 35 [.int .i64 u, .int .i64 v]).alloc (.cells #[.int .i64 s1, .int .i64 s2] 35)
          have F := Blk.new2 w8 (.cells #[.int .i64 u, .int .i64 v] 35) 35 [.int .i64 s1, .int .i64 s2]
          replace P := (P.alloc (.cells #[.int .i64 u, .int .i64 v] 35)).alloc (.cells #[.int .i64 s1, .int .i64 s2] 35)
          replace Q := (Q.alloc (.cells #[.int .i64 u, .int .i64 v] 35)).alloc (.cells #[.int .i64 s1, .int .i64 s2] 35)
          have hx8 := bl_alloc (bl_alloc (Below.refl w8.heap.size w8) (.cells #[.int .i64 u, .int .i64 v] 35)) (.cells #[.int .i64 s1, .int .i64 s2] 35)
          replace R1 := Lib.hid (R1.out.below hx8)
          replace D3 := Lib.hid (D3.out.below hx8)
          replace O5 := Lib.hid (O5.out.below hx8)
          replace hB := bl_trans hB hx8
          obtain ⟨bo2, oo2, u', v', z', hA2, hblo2, huv2, _, _, _, r0, r1, r2⟩ := O5.out.at_ (k := M) (by rw [HM.out]; omega)
          injection hA2 with hA2
          injection hA2 with hA2 hA3
          subst hA2
          subst hA3
          have euv2 := Huv.out.symm.trans huv2
          injection euv2 with euv2
          injection euv2 with e1 euv2
          injection euv2 with e2 e3
          subst e1
          subst e2
          subst e3
          obtain ⟨ge, hge⟩ : ∃ ge, ge = w8.heap.size := ⟨_, rfl⟩
          obtain ⟨W9, hW9⟩ : ∃ W9, W9 = (w8.alloc (.cells #[.int .i64 u, .int .i64 v] 35)).alloc (.cells #[.int .i64 s1, .int .i64 s2] 35) := ⟨_, rfl⟩
          rw [← hge] at E F ⊢
          rw [← hW9] at E F P Q R1 D3 O5 hB r0 r1 r2 ⊢
          clear hge hW9 hx8 huv2 o0 o1 o2 hblo hblo2
          have hMc : (M : Int) ≤ (c5 : Int) := by omega
          have hM0i : (0 : Int) ≤ (M : Int) := by omega
          have HTK := Lib.hid (O5.out.take_ (k := M) (by rw [HM.out]; omega))
          have HTl := Lib.hid (show M = (o.take M).length by rw [List.length_take, HM.out]; omega)
          have hMs : M ≤ 1048576 := by omega
          rcases Hbb.out with hb1 | ⟨hb1, hb2⟩
          · have q1 := Hb1.out.trans hb1
            have Hq := Lib.hid hb1
            have z0 := bq_cell P.c1
            have z1 := bq_cell Q.c2.1
            have z2 := bq_cell Q.c2.2
            have z3 := bq_cell E.c2.1
            have z4 := bq_cell E.c2.2
            have z5 := bq_cell r0
            have z6 := bq_cell r1
            have z7 := bq_cell r2
            clear hb1 r0 r1 r2 Pc Qc
            go_wp2_with fail
            (refine wp_region_quiet_bel (by kernel_rfl) (by kernel_rfl) ?_; (repeat (first | go_big_quiet_step ((go_at_call 83; exact Calls.bel_of ((CanLay_i A c rs x y (some ⟨bo, oo, none⟩) M c5 (o.take M) u v z _ hl1 HTl.out hMs (R1.out.below (BelowOf.bel _)) (HTK.out.below (BelowOf.bel _))).mono (fun e w' h => ⟨h.1.trans (ret_bool HC.out), h.2⟩)))) | quiet_step ((go_at_call 83; exact Calls.bel_of ((CanLay_i A c rs x y (some ⟨bo, oo, none⟩) M c5 (o.take M) u v z _ hl1 HTl.out hMs (R1.out.below (BelowOf.bel _)) (HTK.out.below (BelowOf.bel _))).mono (fun e w' h => ⟨h.1.trans (ret_bool HC.out), h.2⟩)))))); refine wpQuiet_nil ?_; intro wq hw0; obtain ⟨⟨_, hbq⟩, hw1⟩ := hw0; subst hw1; try dsimp only)
            clear z0 z1 z2 z3 z4 z5 z6 z7
            obtain ⟨wz, rfl⟩ : ∃ wz : World, wz = wq := ⟨_, rfl⟩
            replace P := P.bel hbq
            have Pc := P.c1
            replace R1 := Lib.hid (R1.out.below hbq)
            replace D3 := Lib.hid (D3.out.below hbq)
            replace hB := bl_trans hB hbq
            clear hbq E F Q O5 HTK
            obtain ⟨bd, od, du, dv, rfl, hbld, hduv, _, _, _, dd0, dd1⟩ := D3.out.at_ (k := 0) hdne
            have hdin := doors_in (by rw [← HD.out]; exact List.mem_of_getElem? hduv : (du, dv) ∈ doors rs)
            rw [regCells_set HREG.out, mem_cellsBy] at hdin
            have hdh : (regOk rs && cellOk du dv && regHas rs du dv) = true := by rw [HasCell_bit HREG.out hdin.1]; exact hdin.2
            have Hdh := Lib.hid hdh
            have p0 := bq_cell Pc
            have p1 := bq_cell (p := ⟨bd, od, none⟩) dd0
            have p2 := bq_cell (p := ⟨bd, od + 1, none⟩) dd1
            clear hduv hdin hdh Pc dd0 dd1
            go_wp2_with fail
            (refine wp_region_quiet_bel (by kernel_rfl) (by kernel_rfl) ?_; (repeat (first | go_big_quiet_step ((go_at_call 84; exact Calls.bel_of ((HasCell_s A c rs du dv _ hl1 (R1.out.below (BelowOf.bel _))).mono (fun e w' h => ⟨h.1.trans (ret_bool Hdh.out), h.2⟩)))) | quiet_step ((go_at_call 84; exact Calls.bel_of ((HasCell_s A c rs du dv _ hl1 (R1.out.below (BelowOf.bel _))).mono (fun e w' h => ⟨h.1.trans (ret_bool Hdh.out), h.2⟩)))))); refine wpQuiet_nil ?_; intro wq hw0; obtain ⟨⟨_, hbq⟩, hw1⟩ := hw0; subst hw1; try dsimp only)
            go_wp2_with fail
            go_ret
            exact ⟨rfl, bl_trans hB hbq⟩
          · have q1 := Hb1.out.trans hb1
            have q2 := Hb2.out.trans hb2
            have z0 := bq_cell P.c1
            have z1 := bq_cell Q.c2.1
            have z2 := bq_cell Q.c2.2
            have z3 := bq_cell E.c2.1
            have z4 := bq_cell E.c2.2
            have z8 := bq_cell F.c2.1
            have z9 := bq_cell F.c2.2
            have z5 := bq_cell r0
            have z6 := bq_cell r1
            have z7 := bq_cell r2
            clear hb1 hb2 r0 r1 r2 Pc Qc
            go_wp2_with fail
            (refine wp_region_quiet_bel (by kernel_rfl) (by kernel_rfl) ?_; (repeat (first | go_big_quiet_step ((go_at_call 83; exact Calls.bel_of ((CanLay_i A c rs x y (some ⟨bo, oo, none⟩) M c5 (o.take M) u v z _ hl1 HTl.out hMs (R1.out.below (BelowOf.bel _)) (HTK.out.below (BelowOf.bel _))).mono (fun e w' h => ⟨h.1.trans (ret_bool HC.out), h.2⟩)))) | quiet_step ((go_at_call 83; exact Calls.bel_of ((CanLay_i A c rs x y (some ⟨bo, oo, none⟩) M c5 (o.take M) u v z _ hl1 HTl.out hMs (R1.out.below (BelowOf.bel _)) (HTK.out.below (BelowOf.bel _))).mono (fun e w' h => ⟨h.1.trans (ret_bool HC.out), h.2⟩)))))); refine wpQuiet_nil ?_; intro wq hw0; obtain ⟨⟨_, hbq⟩, hw1⟩ := hw0; subst hw1; try dsimp only)
            clear z0 z1 z2 z3 z4 z5 z6 z7 z8 z9
            obtain ⟨wz, rfl⟩ : ∃ wz : World, wz = wq := ⟨_, rfl⟩
            replace P := P.bel hbq
            have Pc := P.c1
            replace R1 := Lib.hid (R1.out.below hbq)
            replace D3 := Lib.hid (D3.out.below hbq)
            replace hB := bl_trans hB hbq
            clear hbq E F Q O5 HTK
            obtain ⟨bd, od, du, dv, rfl, hbld, hduv, _, _, _, dd0, dd1⟩ := D3.out.at_ (k := 0) hdne
            have hdin := doors_in (by rw [← HD.out]; exact List.mem_of_getElem? hduv : (du, dv) ∈ doors rs)
            rw [regCells_set HREG.out, mem_cellsBy] at hdin
            have hdh : (regOk rs && cellOk du dv && regHas rs du dv) = true := by rw [HasCell_bit HREG.out hdin.1]; exact hdin.2
            have Hdh := Lib.hid hdh
            have p0 := bq_cell Pc
            have p1 := bq_cell (p := ⟨bd, od, none⟩) dd0
            have p2 := bq_cell (p := ⟨bd, od + 1, none⟩) dd1
            clear hduv hdin hdh Pc dd0 dd1
            go_wp2_with fail
            (refine wp_region_quiet_bel (by kernel_rfl) (by kernel_rfl) ?_; (repeat (first | go_big_quiet_step ((go_at_call 84; exact Calls.bel_of ((HasCell_s A c rs du dv _ hl1 (R1.out.below (BelowOf.bel _))).mono (fun e w' h => ⟨h.1.trans (ret_bool Hdh.out), h.2⟩)))) | quiet_step ((go_at_call 84; exact Calls.bel_of ((HasCell_s A c rs du dv _ hl1 (R1.out.below (BelowOf.bel _))).mono (fun e w' h => ⟨h.1.trans (ret_bool Hdh.out), h.2⟩)))))); refine wpQuiet_nil ?_; intro wq hw0; obtain ⟨⟨_, hbq⟩, hw1⟩ := hw0; subst hw1; try dsimp only)
            go_wp2_with fail
            go_ret
            exact ⟨rfl, bl_trans hB hbq⟩
end Go.Proofs.Ytdcjhfmkkcakhaa

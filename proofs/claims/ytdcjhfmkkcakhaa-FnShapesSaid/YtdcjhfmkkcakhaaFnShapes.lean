/-
  The walk of the law FnShapes: it returns true for all arguments; no condition.
-/
import Derived.Test.YtdcjhfmkkcakhaaShaE
import Derived.Test.YtdcjhfmkkcakhaaTilR
import Derived.Test.YtdcjhfmkkcakhaaAt
import Derived.BigQuiet
import Derived.Deep.CutRange
import Derived.Deep.RegionHeld3
namespace Go.Proofs.Ytdcjhfmkkcakhaa
open Go.ChangeShapes Go.WideShapes Go.ChangeAt Go.RowKit Go.Deep
set_option linter.unusedVariables false

theorem takeX_ {P : Program} {md : Region.Mode} {ops : Array Oper} {Q : Exit → Act → World → Prop} {S : World → Prop} {i : Nat} {oi : Oper} {d : Option Tmp} {v : Value} {fuel : Nat} {listed : Array Bool} {a : Act} {w : World} (hi : ops[i]? = some oi) (hd : oi.dst = d)
    (hs : Region.noSelect ops = true) (hf : Region.free md ops listed i = true) (hr : (Region.ready md ops listed).contains i = true)
    (hQ : ∀ c a w, Q (.panic c) (a.put d v) w → Q (.panic c) a w) (hy : YieldsIf P ops S oi v a) (hS : S w)
    (h : wpAnyH P md ops Q S fuel (listed.setIfInBounds i true) (a.put d v) w) : wpAnyH P md ops Q S (fuel + 1) listed a w := by
  subst hd; exact wpAnyH_take hi hs hf hr hQ hy hS h
theorem take_dec {t s : List Cl} {i : Nat} {a b x y : Int} (h1 : t[i]? = some (a, b)) (h2 : s[i]? = some (x, y)) : decide (t.take (i + 1) = s.take (i + 1)) = (decide (t.take i = s.take i) && (a == x && b == y)) := by
  rw [take_snoc_at h1, take_snoc_at h2, Bool.eq_iff_iff]
  simp only [decide_eq_true_eq, Bool.and_eq_true, beq_iff_eq]
  constructor
  · intro h
    obtain ⟨g1, g2⟩ := List.append_inj' h rfl
    injection g2 with g2
    injection g2 with g3 g4
    exact ⟨g1, g3, g4⟩
  · rintro ⟨g1, g3, g4⟩
    rw [g1, g3, g4]
theorem mem_dec {T : List (List Cl)} {k : Nat} {t s : List Cl} (h : T[k]? = some t) : decide (s ∈ T.take (k + 1)) = (decide (s ∈ T.take k) || decide (t = s)) := by
  rw [take_snoc_at h, Bool.eq_iff_iff]
  simp only [decide_eq_true_eq, Bool.or_eq_true, List.mem_append, List.mem_singleton]
  exact ⟨fun h => h.imp id Eq.symm, fun h => h.imp id Eq.symm⟩
theorem shp_facts {s : List Cl} (h : shpB s = true) : shapeOk s = true ∧ s ∈ turnsR s ∧ ((turnsR s).length = 1 ∨ (turnsR s).length = 2 ∨ (turnsR s).length = 4 ∨ (turnsR s).length = 8) ∧ symR s = decide ((turnsR s).length < 8) ∧ fitShape (s.map mvC) = true ∧ fitShapeL (s.map mvC) = s ∧ ∀ t ∈ turnsR s, shapeOk t = true ∧ t.length = s.length ∧ (turnsR t).length = (turnsR s).length := by
  unfold shpB at h
  simp only [Bool.and_eq_true, Bool.or_eq_true, decide_eq_true_eq, List.all_eq_true] at h
  exact ⟨h.1, h.2.1, h.2.2.1, h.2.2.2.1, h.2.2.2.2.1, h.2.2.2.2.2.1, fun t ht => h.2.2.2.2.2.2 t ht⟩
set_option maxRecDepth 100000 in
set_option maxHeartbeats 8000000 in
theorem walk_FnShapes (A0 : Option Addr) (c0 : Nat) (l0 : List (Int)) (w : World) (hr0 : RdB w A0 l0) (hl0 : l0.length ≤ maxLen) :
    Calls Try.prog 10 #[.slice A0 l0.length c0] w fun e w' => e = .returned (.bool true) ∧ Below w.heap.size w w' := by
  have hB := Below.refl w.heap.size w
  by_cases hbig : (l0.length : Int) > 1048576
  · have hq : decide ((l0.length : Int) > 1048576) = true := decide_eq_true hbig
    go_enter Try.func10, Try.ntmps10
    go_wp2_with (go_at_call 12; refine (big_any _ _ _ _ hl0).mono ?_; rintro e wn ⟨h1, rfl⟩; rw [hq] at h1; subst h1)
    go_ret
    exact ⟨rfl, hB⟩
  · have hq : decide ((l0.length : Int) > 1048576) = false := decide_eq_false hbig
    have hl : l0.length ≤ 1048576 := by omega
    have hr0' := Lib.hid hr0
    clear hr0 hbig
    go_enter Try.func10, Try.ntmps10
    go_wp2_with (go_at_call 12; refine (big_any _ _ _ _ hl0).mono ?_; rintro e wn ⟨h1, rfl⟩; rw [hq] at h1; subst h1)
    (refine (DrawShape_grown A0 c0 l0 _ hl hr0'.out).mono ?_; rintro e w1 ⟨A, c, s, rfl, h5, hsp, r1, hb1⟩)
    obtain ⟨f1, f2, f3, f4, f5, f6, f7⟩ := shp_facts hsp
    have hst := shapeOk_strict f1
    obtain ⟨nS, hnS⟩ : ∃ nS, nS = s.length := ⟨_, rfl⟩
    obtain ⟨T, hT⟩ : ∃ T, T = turnsR s := ⟨_, rfl⟩
    rw [← hT] at f2 f3 f4 f7
    rw [← hnS] at h5 ⊢
    have HnS := Lib.hid hnS
    have HT := Lib.hid hT
    have hnl : nS ≤ 1048576 := by omega
    have HM1 := Lib.hid f2
    have Hlen := Lib.hid f3
    have Hsym0 := Lib.hid f4
    have Hf1 := Lib.hid f5
    have Hf2 := Lib.hid f6
    have Hall := Lib.hid f7
    have HOKS := Lib.hid hst.ok
    have RS := Lib.hid r1
    have HB := Lib.hid (bl_trans hB hb1)
    have hT8 : T.length ≤ 8 := by omega
    clear r1 hb1 hB hsp f1 f2 f3 f4 f5 f6 f7 hst hnS hT
    go_wp2_with fail
    (refine (TurnsOfShape_i A nS c s _ HnS.out hnl RS.out).mono ?_; rintro e w2 ⟨v2, rfl, o2, hb2⟩; rw [← HT.out] at o2; obtain ⟨A4, c4, rfl⟩ := o2.form; have RT := Lib.hid (InCC.rd o2); replace RS := Lib.hid (RS.out.below hb2); replace HB := Lib.hid (bl_trans HB.out hb2); clear o2 hb2)
    go_wp2_with fail
    go_loopw [5, 6] (fun v i wr => ∃ k : Nat, k ≤ T.length ∧ i = .int .i64 k ∧ v = .bool (decide (s ∈ T.take k)) ∧ Hid (Below w2.heap.size w2 wr)) (fun _ i _ => T.length - (intOf i).toNat)
    case atStart => exact ⟨0, by omega, rfl, by simp, Lib.hid (Below.refl _ _)⟩
    case round =>
      obtain ⟨k, hk, rfl, rfl, Hbk⟩ := hrel
      by_cases hlt : k < T.length
      · obtain ⟨bt, ot, t, A5, c5, rfl, hblt, ht, _, rt, tc⟩ := (RT.out.below Hbk.out).at_ hlt
        obtain ⟨g1, g2, g3⟩ := Hall.out t (List.mem_of_getElem? ht)
        obtain ⟨F, hF⟩ : ∃ F, F = decide (s ∈ T.take k) := ⟨_, rfl⟩
        rw [← hF]
        have Hnx := Lib.hid (show decide (s ∈ T.take (k + 1)) = (F || decide (t = s)) by rw [mem_dec ht, hF])
        rw [g2, ← HnS.out] at tc
        have HtN := Lib.hid (show nS = t.length by rw [g2]; exact HnS.out)
        have Hg1 := Lib.hid g1
        have Hg3 := Lib.hid g3
        have Rt := Lib.hid rt
        have hkT : (k : Int) < (T.length : Int) := by omega
        have RS2 := Lib.hid (RS.out.below Hbk.out)
        obtain ⟨wo, rfl⟩ : ∃ wo : World, wo = wr := ⟨_, rfl⟩
        have HBk := Hbk
        clear hF ht g1 g2 g3 rt Hbk
        go_upto_region 13 with (first
          | (go_at_call 71; refine (ShapeOk_i A5 nS c5 t _ HtN.out hnl Rt.out).mono ?_; rintro e y1 ⟨rfl, hy1⟩; rw [Hg1.out]; replace Rt := Lib.hid (Rt.out.below hy1); replace RS2 := Lib.hid (RS2.out.below hy1); replace HBk := Lib.hid (bl_trans HBk.out hy1); replace tc := (hy1.cell (p := ⟨bt, ot + k, none⟩) hblt).trans tc; replace hblt := Nat.lt_of_lt_of_le hblt hy1.size; clear hy1)
          | (go_at_call 70; refine (TurnsOfShape_i A5 nS c5 t _ HtN.out hnl Rt.out).mono ?_; rintro e y2 ⟨v2, rfl, o2, hy2⟩; obtain ⟨A7, c7, rfl⟩ := o2.form; rw [Hg3.out]; replace Rt := Lib.hid (Rt.out.below hy2); replace RS2 := Lib.hid (RS2.out.below hy2); replace HBk := Lib.hid (bl_trans HBk.out hy2); replace tc := (hy2.cell (p := ⟨bt, ot + k, none⟩) hblt).trans tc; replace hblt := Nat.lt_of_lt_of_le hblt hy2.size; clear hy2 o2))
        obtain ⟨wx, hwx⟩ : ∃ wx : World, wx = y2 := ⟨_, rfl⟩
        rw [← hwx] at Rt RS2 HBk tc hblt ⊢
        clear hwx
        have Htc := Lib.hid tc
        clear tc
        go_loopw [7, 8] (fun v i wr => ∃ j : Nat, j ≤ nS ∧ i = .int .i64 j ∧ v = .bool (decide (t.take j = s.take j)) ∧ Hid (Below wx.heap.size wx wr)) (fun _ i _ => nS - (intOf i).toNat)
        case atStart => exact ⟨0, by omega, rfl, by simp, Lib.hid (Below.refl _ _)⟩
        case round =>
          obtain ⟨j, hj, rfl, rfl, Hbj⟩ := hrel
          by_cases hjn : j < nS
          · obtain ⟨ba, oa, a, b, rfl, hbla, hat, _, _, _, a0, a1⟩ := (Rt.out.below Hbj.out).at_ (k := j) (by rw [← HtN.out]; exact hjn)
            obtain ⟨bs, os, x, y, rfl, hbls, hst, _, _, _, s0, s1⟩ := (RS2.out.below Hbj.out).at_ (k := j) (by rw [← HnS.out]; exact hjn)
            have tc := (Hbj.out.cell (p := ⟨bt, ot + k, none⟩) hblt).trans Htc.out
            obtain ⟨E, hE⟩ : ∃ E, E = decide (t.take j = s.take j) := ⟨_, rfl⟩
            obtain ⟨b1, hb1⟩ : ∃ b1 : Bool, (a == x && b == y) = b1 := ⟨_, rfl⟩
            have Hd := Lib.hid (show decide (t.take (j + 1) = s.take (j + 1)) = (E && b1) by rw [take_dec hat hst, hE, hb1])
            rw [← hE]
            have hec := eq_cell
            have hjN : (j : Int) < (nS : Int) := by omega
            have q0 := bq_cell a0
            have q1 := bq_cell a1
            have q2 := bq_cell s0
            have q3 := bq_cell s1
            have q4 := bq_cell tc
            clear hE hat hst a0 a1 s0 s1 tc
            cases E
            all_goals
              go_wp2_with fail
              (refine wp_region_quiet_bel (by kernel_rfl) (by kernel_rfl) ?_; (repeat (first | go_big_quiet_step (fail) | quiet_step (fail))); refine wpQuiet_nil ?_; intro wq hw0; obtain ⟨⟨_, hbq⟩, hw1⟩ := hw0; subst hw1; try dsimp only)
              go_wp2_with fail
              go_roundw
              case rel => exact ⟨j + 1, by omega, by go_num, by rw [Hd.out]; simp, Lib.hid (bl_trans Hbj.out hbq)⟩
              case measure => simp [intOf]; omega
          · obtain rfl : j = nS := by omega
            have htt : t.take j = t := List.take_of_length_le (by rw [← HtN.out]; exact Nat.le_refl _)
            have hss : s.take j = s := List.take_of_length_le (by rw [← HnS.out]; exact Nat.le_refl _)
            rw [htt, hss]
            obtain ⟨E, hE⟩ : ∃ E, E = decide (t = s) := ⟨_, rfl⟩
            rw [← hE] at Hnx ⊢
            clear htt hss hE
            cases F
            all_goals
              go_wp2_with fail
              go_roundw
              case rel => exact ⟨k + 1, by omega, by go_num, by rw [Hnx.out]; simp, Lib.hid (bl_trans HBk.out Hbj.out)⟩
              case measure => simp [intOf]; omega
      · obtain rfl : k = T.length := by omega
        have hfound : decide (s ∈ T.take T.length) = true := by rw [List.take_length]; exact decide_eq_true HM1.out
        rw [hfound]
        replace RS := Lib.hid (RS.out.below Hbk.out)
        replace HB := Lib.hid (bl_trans HB.out Hbk.out)
        clear hfound Hbk RT Hall HM1 hlt hk
        obtain ⟨wo, rfl⟩ : ∃ wo : World, wo = wr := ⟨_, rfl⟩
        have ho2 := Lib.hid (OwC.new_ (B := wo.heap.size) (w := wo) (Nat.le_refl _))
        have hB1 := Lib.hid (bl_alloc (Below.refl wo.heap.size wo) (.cells #[] 35))
        go_wp2_with fail
        go_loopw [9, 10] (fun v i wr => ∃ j : Nat, j ≤ nS ∧ i = .int .i64 j ∧ OwC wo.heap.size wr v ((s.take j).map mvC) ∧ Hid (Below wo.heap.size wo wr)) (fun _ i _ => nS - (intOf i).toNat)
        case atStart => exact ⟨0, by omega, rfl, ho2.out, hB1⟩
        case round =>
          obtain ⟨j, hj, rfl, own, HB2⟩ := hrel
          clear ho2 hB1
          by_cases hjn : j < nS
          · obtain ⟨b, off, x, y, rfl, hbl, hv, _, _, _, c0o, c1o⟩ := RS.out.at_ (k := j) (by rw [← HnS.out]; exact hjn)
            have c0 := (HB2.out.cell (p := ⟨b, off + j * 2, none⟩) hbl).trans c0o
            have c1 := (HB2.out.cell (p := ⟨b, off + j * 2 + 1, none⟩) hbl).trans c1o
            have C0 := Lib.hid c0o
            have C1o := Lib.hid c1o
            have hok := cellOk_iff.1 (HOKS.out _ (List.mem_of_getElem? hv))
            dsimp only at hok
            have Hsn := Lib.hid (take_map_snoc mvC hv)
            have Ho := Lib.hid own
            have hol : ((s.take j).map mvC).length ≤ 1048576 := by rw [List.length_map, List.length_take]; omega
            have hz2 : wo.heap.size ≤ wr.heap.size := HB2.out.size
            have hw0 : IntKind.i64.wrap (x + 2) = x + 2 := IntWalk.i64_in _ (by omega)
            have hw1 : IntKind.i64.wrap (y + 3) = y + 3 := IntWalk.i64_in _ (by omega)
            have hjN : (j : Int) < (nS : Int) := by omega
            clear hv own c0o c1o
            go_wp2_with fail
            go_region_held3 (fun w' => w'.cell? ⟨b, off + j * 2, none⟩ = some (.int .i64 x) ∧ w'.cell? ⟨b, off + j * 2 + 1, none⟩ = some (.int .i64 y)) (go_keep) ((refine step_atCd (by rfl) (.tmp 87) (.tmp 101) (by rfl) wo.heap.size _ _ (x + 2) (y + 3) (by rfl) (by rfl) Ho.out hz2 hol ⟨by omega, by omega⟩ ⟨by omega, by omega⟩ ?_; intro v' w3 o1 b1 gr1 s1; have HB3 := Lib.hid (b1 _ HB2.out); have O1 := Lib.hid o1; have e0 := (HB3.out.cell (p := ⟨b, off + j * 2, none⟩) hbl).trans C0.out; have e1 := (HB3.out.cell (p := ⟨b, off + j * 2 + 1, none⟩) hbl).trans C1o.out; clear o1 b1 gr1))
            go_wp2_with fail
            go_roundw
            case rel => exact ⟨j + 1, by omega, by go_num, by rw [Hsn.out]; exact O1.out, HB3⟩
            case measure => simp [intOf]; omega
          · obtain rfl : j = nS := by omega
            have hss : s.take j = s := List.take_of_length_le (by rw [← HnS.out]; exact Nat.le_refl _)
            rw [hss] at own
            obtain ⟨A9, c9, rfl⟩ := own.form
            have hmn : (s.map mvC).length = j := by rw [List.length_map]; exact HnS.out.symm
            rw [hmn] at own ⊢
            have Hmn := Lib.hid hmn.symm
            have RM := Lib.hid own.rd
            replace RS := Lib.hid (RS.out.below HB2.out)
            replace HB := Lib.hid (bl_trans HB.out HB2.out)
            clear own hmn hss HB2 hjn hj
            go_wp2_with fail
            (refine (FitShape_i A9 j c9 (s.map mvC) _ Hmn.out hnl RM.out).mono ?_; rintro e w4 ⟨v4, rfl, o4, hb4⟩; rw [Hf1.out]; rw [Hf2.out] at o4; obtain ⟨A8, c8, rfl⟩ := o4.form; rw [← HnS.out] at o4 ⊢; have RF := Lib.hid o4.rd; replace RS := Lib.hid (RS.out.below hb4); replace HB := Lib.hid (bl_trans HB.out hb4); clear o4 hb4)
            go_wp2_with fail
            (refine (DrawTileable_any A0 c0 l0 _ hl (hr0'.out.below HB.out)).mono ?_; rintro e w5 ⟨A6, c6, rs, rfl, hcn, o5, hb5⟩)
            have hreg : regOk rs = true := by
              cases h : regOk rs with
              | true => rfl
              | false => rw [show cntT rs = 0 by rw [cntT, h]; rfl] at hcn; exact absurd hcn (by decide)
            have hl6 : rs.length ≤ 1048576 := by have := (regOk_iff.1 hreg).1; omega
            have hx5 := bl_alloc (Below.refl w5.heap.size w5) (.cells #[.slice A6 rs.length c6] 31)
            have P := Blk.new w5 31 [.slice A6 rs.length c6]
            have R3 := Lib.hid (o5.below hx5)
            replace RS := Lib.hid ((RS.out.below hb5).below hx5)
            replace RF := Lib.hid ((RF.out.below hb5).below hx5)
            replace HB := Lib.hid (bl_trans (bl_trans HB.out hb5) hx5)
            obtain ⟨gr, hgr⟩ : ∃ gr, gr = w5.heap.size := ⟨_, rfl⟩
            obtain ⟨W6, hW6⟩ : ∃ W6, W6 = w5.alloc (.cells #[.slice A6 rs.length c6] 31) := ⟨_, rfl⟩
            have HREG := Lib.hid hreg
            have hjj : (!((j : Int) == (j : Int))) = false := by simp
            clear o5 hb5 hcn hreg hx5
            go_upto_region 28 with fail
            rw [← hgr] at P ⊢
            rw [← hW6] at P R3 RS RF HB ⊢
            clear hgr hW6
            go_loopw [15] (fun i wr => ∃ k : Nat, k ≤ j ∧ i = .int .i64 k ∧ Hid (Below W6.heap.size W6 wr)) (fun i _ => j - (intOf i).toNat)
            case atStart => exact ⟨0, by omega, rfl, Lib.hid (Below.refl _ _)⟩
            case round =>
              obtain ⟨k, hk, rfl, Hbk⟩ := hrel
              by_cases hkn : k < j
              · obtain ⟨ba, oa, a, b, rfl, hbla, hat, _, _, _, a0, a1⟩ := (RF.out.below Hbk.out).at_ (k := k) (by rw [← HnS.out]; exact hkn)
                obtain ⟨bs, os, x, y, rfl, hbls, hst, _, _, _, s0, s1⟩ := (RS.out.below Hbk.out).at_ (k := k) (by rw [← HnS.out]; exact hkn)
                have hxy := hat.symm.trans hst
                injection hxy with hxy
                injection hxy with hx1 hy1
                subst hx1
                subst hy1
                have hec := neq_cell
                have hkN : (k : Int) < (j : Int) := by omega
                have hneq : (!(a == a && b == b)) = false := by simp
                have q0 := bq_cell a0
                have q1 := bq_cell a1
                have q2 := bq_cell s0
                have q3 := bq_cell s1
                clear hat hst a0 a1 s0 s1
                go_wp2_with fail
                (refine wp_region_quiet_bel (by kernel_rfl) (by kernel_rfl) ?_; (repeat (first | go_big_quiet_step (fail) | quiet_step (fail))); refine wpQuiet_nil ?_; intro wq hw0; obtain ⟨⟨_, hbq⟩, hw1⟩ := hw0; subst hw1; try dsimp only)
                go_wp2_with fail
                go_roundw
                case rel => exact ⟨k + 1, by omega, by go_num, Lib.hid (bl_trans Hbk.out hbq)⟩
                case measure => simp [intOf]; omega
              · obtain rfl : k = j := by omega
                replace P := P.bel Hbk.out
                replace R3 := Lib.hid (R3.out.below Hbk.out)
                replace RS := Lib.hid (RS.out.below Hbk.out)
                replace HB := Lib.hid (bl_trans HB.out Hbk.out)
                obtain ⟨nS, hnS'⟩ : ∃ nS, nS = k := ⟨_, rfl⟩
                rw [← hnS'] at HnS hnl ⊢
                clear hnS' Hbk hkn RF
                obtain ⟨M, hM⟩ : ∃ M, (regCells rs).length = M := ⟨_, rfl⟩
                have HM := Lib.hid hM
                have hM64 : M ≤ 64 := by rw [← hM]; exact regCells_len rs
                obtain ⟨ct, hct⟩ : ∃ ct, cntT rs = ct := ⟨_, rfl⟩
                have Hct := Lib.hid hct
                have hcc : (ct == ct) = true := by simp
                clear hct hM
                have Hcs := Lib.hid (fun h : M ≤ 20 => (dom_count HREG.out (by rw [HM.out]; exact h)).trans Hct.out)
                have Pc := P.c1
                obtain ⟨wz, rfl⟩ : ∃ wz : World, wz = wr := ⟨_, rfl⟩
                go_upto_region 32 with fail
                clear hcc
                have hcc : (ct == ct) = true := by simp
                by_cases h20 : M ≤ 20
                · have d20 : decide ((M : Int) > 20) = false := decide_eq_false (by omega)
                  have d21 : decide ((20 : Int) < (M : Int)) = false := decide_eq_false (by omega)
                  replace Hcs := Lib.hid (Hcs.out h20)
                  clear h20
                  rcases Hlen.out with hn | hn | hn | hn
                  · rw [show (T.length : Int) = 1 by omega]
                    have Hsym := Lib.hid (show symR s = true by rw [Hsym0.out, hn]; rfl)
                    clear hn Hlen Hsym0
                    refine wp_region_held_drew (S := (fun w' : World => w'.cell? ⟨gr, 0, none⟩ = some (.slice A6 rs.length c6))) (by kernel_rfl) ?_ (fun hHeld => ?_)
                    · (try dsimp only); go_keep
                    refine takeX_ (i := 0) (d := some 132) (v := ?v1s0) rfl rfl (by kernel_rfl) (by kernel_rfl) (by kernel_rfl) (fun _ _ _ h => h) (Or.inl ⟨by rfl, ?hy1s0⟩) (by assumption) ?rest1s0
                    case hy1s0 => (intro w hSw; (try dsimp only at hSw); go_simp; first | done | with_reducible rfl)
                    (try simp only [Act.put, List.setIfInBounds_toArray, List.set_cons_zero, List.set_cons_succ])
                    refine takeX_ (i := 1) (d := some 133) (v := ?v1s1) rfl rfl (by kernel_rfl) (by kernel_rfl) (by kernel_rfl) (fun _ _ _ h => h) (Or.inl ⟨by rfl, ?hy1s1⟩) (by assumption) ?rest1s1
                    case hy1s1 => (intro w hSw; (try dsimp only at hSw); go_simp; first | done | with_reducible rfl)
                    (try simp only [Act.put, List.setIfInBounds_toArray, List.set_cons_zero, List.set_cons_succ])
                    refine takeX_ (i := 2) (d := some 134) (v := ?v1s2) rfl rfl (by kernel_rfl) (by kernel_rfl) (by kernel_rfl) (fun _ _ _ h => h) (Or.inl ⟨by rfl, ?hy1s2⟩) (by assumption) ?rest1s2
                    case hy1s2 => (intro w hSw; (try dsimp only at hSw); go_simp; first | done | with_reducible rfl)
                    (try simp only [Act.put, List.setIfInBounds_toArray, List.set_cons_zero, List.set_cons_succ])
                    refine takeX_ (i := 3) (d := some 135) (v := ?v1s3) rfl rfl (by kernel_rfl) (by kernel_rfl) (by kernel_rfl) (fun _ _ _ h => h) (Or.inl ⟨by rfl, ?hy1s3⟩) (by assumption) ?rest1s3
                    case hy1s3 => (intro w hSw; (try dsimp only at hSw); go_simp; first | done | with_reducible rfl)
                    (try simp only [Act.put, List.setIfInBounds_toArray, List.set_cons_zero, List.set_cons_succ])
                    refine takeX_ (i := 4) (d := some 136) (v := ?v1s4) rfl rfl (by kernel_rfl) (by kernel_rfl) (by kernel_rfl) (fun _ _ _ h => h) (Or.inl ⟨by rfl, ?hy1s4⟩) (by assumption) ?rest1s4
                    case hy1s4 => (intro w hSw; (try dsimp only at hSw); go_simp; first | done | with_reducible rfl)
                    (try simp only [Act.put, List.setIfInBounds_toArray, List.set_cons_zero, List.set_cons_succ])
                    refine takeX_ (i := 5) (d := some 137) (v := ?v1s5) rfl rfl (by kernel_rfl) (by kernel_rfl) (by kernel_rfl) (fun _ _ _ h => h) (Or.inl ⟨by rfl, ?hy1s5⟩) (by assumption) ?rest1s5
                    case hy1s5 => (intro w hSw; (try dsimp only at hSw); go_simp; first | done | with_reducible rfl)
                    (try simp only [Act.put, List.setIfInBounds_toArray, List.set_cons_zero, List.set_cons_succ])
                    refine takeX_ (i := 6) (d := some 138) (v := ?v1s6) rfl rfl (by kernel_rfl) (by kernel_rfl) (by kernel_rfl) (fun _ _ _ h => h) (Or.inl ⟨by rfl, ?hy1s6⟩) (by assumption) ?rest1s6
                    case hy1s6 => (intro w hSw; (try dsimp only at hSw); go_simp; first | done | with_reducible rfl)
                    (try simp only [Act.put, List.setIfInBounds_toArray, List.set_cons_zero, List.set_cons_succ])
                    refine takeX_ (i := 7) (d := some 139) (v := ?v1s7) rfl rfl (by kernel_rfl) (by kernel_rfl) (by kernel_rfl) (fun _ _ _ h => h) (Or.inl ⟨by rfl, ?hy1s7⟩) (by assumption) ?rest1s7
                    case hy1s7 => (intro w hSw; (try dsimp only at hSw); go_simp; first | done | with_reducible rfl)
                    (try simp only [Act.put, List.setIfInBounds_toArray, List.set_cons_zero, List.set_cons_succ])
                    refine takeX_ (i := 8) (d := some 140) (v := undef) rfl rfl (by kernel_rfl) (by kernel_rfl) (by kernel_rfl) (fun _ _ _ h => h) (Or.inr ⟨by rfl, rfl⟩) (by assumption) ?_
                    (try simp only [Act.put, List.setIfInBounds_toArray, List.set_cons_zero, List.set_cons_succ])
                    refine takeX_ (i := 9) (d := some 141) (v := undef) rfl rfl (by kernel_rfl) (by kernel_rfl) (by kernel_rfl) (fun _ _ _ h => h) (Or.inr ⟨by rfl, rfl⟩) (by assumption) ?_
                    (try simp only [Act.put, List.setIfInBounds_toArray, List.set_cons_zero, List.set_cons_succ])
                    refine takeX_ (i := 10) (d := some 142) (v := ?v1s10) rfl rfl (by kernel_rfl) (by kernel_rfl) (by kernel_rfl) (fun _ _ _ h => h) (Or.inl ⟨by rfl, ?hy1s10⟩) (by assumption) ?rest1s10
                    case hy1s10 => (intro w hSw; (try dsimp only at hSw); go_simp; first | done | with_reducible rfl)
                    (try simp only [Act.put, List.setIfInBounds_toArray, List.set_cons_zero, List.set_cons_succ])
                    refine takeX_ (i := 11) (d := some 143) (v := ?v1s11) rfl rfl (by kernel_rfl) (by kernel_rfl) (by kernel_rfl) (fun _ _ _ h => h) (Or.inl ⟨by rfl, ?hy1s11⟩) (by assumption) ?rest1s11
                    case hy1s11 => (intro w hSw; (try dsimp only at hSw); go_simp; first | done | with_reducible rfl)
                    (try simp only [Act.put, List.setIfInBounds_toArray, List.set_cons_zero, List.set_cons_succ])
                    refine takeX_ (i := 12) (d := some 144) (v := undef) rfl rfl (by kernel_rfl) (by kernel_rfl) (by kernel_rfl) (fun _ _ _ h => h) (Or.inr ⟨by rfl, rfl⟩) (by assumption) ?_
                    (try simp only [Act.put, List.setIfInBounds_toArray, List.set_cons_zero, List.set_cons_succ])
                    refine takeX_ (i := 13) (d := some 145) (v := undef) rfl rfl (by kernel_rfl) (by kernel_rfl) (by kernel_rfl) (fun _ _ _ h => h) (Or.inr ⟨by rfl, rfl⟩) (by assumption) ?_
                    (try simp only [Act.put, List.setIfInBounds_toArray, List.set_cons_zero, List.set_cons_succ])
                    refine takeX_ (i := 14) (d := some 146) (v := ?v1s14) rfl rfl (by kernel_rfl) (by kernel_rfl) (by kernel_rfl) (fun _ _ _ h => h) (Or.inl ⟨by rfl, ?hy1s14⟩) (by assumption) ?rest1s14
                    case hy1s14 => (intro w hSw; (try dsimp only at hSw); go_simp; first | done | with_reducible rfl)
                    (try simp only [Act.put, List.setIfInBounds_toArray, List.set_cons_zero, List.set_cons_succ])
                    refine takeX_ (i := 15) (d := some 147) (v := ?v1s15) rfl rfl (by kernel_rfl) (by kernel_rfl) (by kernel_rfl) (fun _ _ _ h => h) (Or.inl ⟨by rfl, ?hy1s15⟩) (by assumption) ?rest1s15
                    case hy1s15 => (intro w hSw; (try dsimp only at hSw); go_simp; first | done | with_reducible rfl)
                    (try simp only [Act.put, List.setIfInBounds_toArray, List.set_cons_zero, List.set_cons_succ])
                    refine takeX_ (i := 16) (d := some 148) (v := undef) rfl rfl (by kernel_rfl) (by kernel_rfl) (by kernel_rfl) (fun _ _ _ h => h) (Or.inr ⟨by rfl, rfl⟩) (by assumption) ?_
                    (try simp only [Act.put, List.setIfInBounds_toArray, List.set_cons_zero, List.set_cons_succ])
                    refine takeX_ (i := 17) (d := some 149) (v := undef) rfl rfl (by kernel_rfl) (by kernel_rfl) (by kernel_rfl) (fun _ _ _ h => h) (Or.inr ⟨by rfl, rfl⟩) (by assumption) ?_
                    (try simp only [Act.put, List.setIfInBounds_toArray, List.set_cons_zero, List.set_cons_succ])
                    refine takeX_ (i := 18) (d := some 150) (v := ?v1s18) rfl rfl (by kernel_rfl) (by kernel_rfl) (by kernel_rfl) (fun _ _ _ h => h) (Or.inl ⟨by rfl, ?hy1s18⟩) (by assumption) ?rest1s18
                    case hy1s18 => (intro w hSw; (try dsimp only at hSw); go_simp; first | done | with_reducible rfl)
                    (try simp only [Act.put, List.setIfInBounds_toArray, List.set_cons_zero, List.set_cons_succ])
                    refine takeX_ (i := 19) (d := some 151) (v := ?v1s19) rfl rfl (by kernel_rfl) (by kernel_rfl) (by kernel_rfl) (fun _ _ _ h => h) (Or.inl ⟨by rfl, ?hy1s19⟩) (by assumption) ?rest1s19
                    case hy1s19 => (intro w hSw; (try dsimp only at hSw); go_simp; first | done | with_reducible rfl)
                    (try simp only [Act.put, List.setIfInBounds_toArray, List.set_cons_zero, List.set_cons_succ])
                    refine takeX_ (i := 20) (d := some 152) (v := ?v1s20) rfl rfl (by kernel_rfl) (by kernel_rfl) (by kernel_rfl) (fun _ _ _ h => h) (Or.inl ⟨by rfl, ?hy1s20⟩) (by assumption) ?rest1s20
                    case hy1s20 => (intro w hSw; (try dsimp only at hSw); go_simp; first | done | with_reducible rfl)
                    (try simp only [Act.put, List.setIfInBounds_toArray, List.set_cons_zero, List.set_cons_succ])
                    refine takeX_ (i := 21) (d := some 153) (v := ?v1s21) rfl rfl (by kernel_rfl) (by kernel_rfl) (by kernel_rfl) (fun _ _ _ h => h) (Or.inl ⟨by rfl, ?hy1s21⟩) (by assumption) ?rest1s21
                    case hy1s21 => (intro w hSw; (try dsimp only at hSw); go_simp; first | done | with_reducible rfl)
                    (try simp only [Act.put, List.setIfInBounds_toArray, List.set_cons_zero, List.set_cons_succ])
                    refine takeX_ (i := 23) (d := some 155) (v := ?v1s23) rfl rfl (by kernel_rfl) (by kernel_rfl) (by kernel_rfl) (fun _ _ _ h => h) (Or.inl ⟨by rfl, ?hy1s23⟩) (by assumption) ?rest1s23
                    case hy1s23 => (intro w hSw; (try dsimp only at hSw); go_simp; first | done | with_reducible rfl)
                    (try simp only [Act.put, List.setIfInBounds_toArray, List.set_cons_zero, List.set_cons_succ])
                    refine takeX_ (i := 24) (d := some 156) (v := ?v1s24) rfl rfl (by kernel_rfl) (by kernel_rfl) (by kernel_rfl) (fun _ _ _ h => h) (Or.inl ⟨by rfl, ?hy1s24⟩) (by assumption) ?rest1s24
                    case hy1s24 => (intro w hSw; (try dsimp only at hSw); go_simp; first | done | with_reducible rfl)
                    (try simp only [Act.put, List.setIfInBounds_toArray, List.set_cons_zero, List.set_cons_succ])
                    refine wpAnyH_ready (rs := [22]) (by kernel_rfl) (by simp) ?_
                    refine AllReadyH.cons rfl (fun KK hKK => ?_) AllReadyH.nil
                    go_simp
                    (go_at_call 74; with_reducible refine (IsSymmetricShape_i A nS c s _ HnS.out hnl (RS.out.below (by go_grown))).mono ?_; rintro e y1 ⟨rfl, hy1⟩; rw [Hsym.out]; replace P := P.bel (bl_trans (by go_grown) hy1); have Pc := P.c1; replace R3 := Lib.hid (R3.out.below (bl_trans (by go_grown) hy1)); replace RS := Lib.hid (RS.out.below (bl_trans (by go_grown) hy1)); replace HB := Lib.hid (bl_trans HB.out (bl_trans (by go_grown) hy1)); clear hy1)
                    refine hKK.out _ _ ?_ (fun hHeld => ?_)
                    · (try dsimp only); go_keep
                    clear hKK KK
                    (try simp only [Act.put, List.setIfInBounds_toArray, List.set_cons_zero, List.set_cons_succ])
                    refine takeX_ (i := 25) (d := some 157) (v := ?v1s25) rfl rfl (by kernel_rfl) (by kernel_rfl) (by kernel_rfl) (fun _ _ _ h => h) (Or.inl ⟨by rfl, ?hy1s25⟩) (by assumption) ?rest1s25
                    case hy1s25 => (intro w hSw; (try dsimp only at hSw); go_simp; first | done | with_reducible rfl)
                    (try simp only [Act.put, List.setIfInBounds_toArray, List.set_cons_zero, List.set_cons_succ])
                    refine takeX_ (i := 26) (d := some 158) (v := ?v1s26) rfl rfl (by kernel_rfl) (by kernel_rfl) (by kernel_rfl) (fun _ _ _ h => h) (Or.inl ⟨by rfl, ?hy1s26⟩) (by assumption) ?rest1s26
                    case hy1s26 => (intro w hSw; (try dsimp only at hSw); go_simp; first | done | with_reducible rfl)
                    (try simp only [Act.put, List.setIfInBounds_toArray, List.set_cons_zero, List.set_cons_succ])
                    refine takeX_ (i := 27) (d := some 159) (v := ?v1s27) rfl rfl (by kernel_rfl) (by kernel_rfl) (by kernel_rfl) (fun _ _ _ h => h) (Or.inl ⟨by rfl, ?hy1s27⟩) (by assumption) ?rest1s27
                    case hy1s27 => (intro w hSw; (try dsimp only at hSw); go_simp; first | done | with_reducible rfl)
                    (try simp only [Act.put, List.setIfInBounds_toArray, List.set_cons_zero, List.set_cons_succ])
                    refine takeX_ (i := 28) (d := some 160) (v := ?v1s28) rfl rfl (by kernel_rfl) (by kernel_rfl) (by kernel_rfl) (fun _ _ _ h => h) (Or.inl ⟨by rfl, ?hy1s28⟩) (by assumption) ?rest1s28
                    case hy1s28 => (intro w hSw; (try dsimp only at hSw); go_simp; first | done | with_reducible rfl)
                    (try simp only [Act.put, List.setIfInBounds_toArray, List.set_cons_zero, List.set_cons_succ])
                    refine wpAnyH_ready (rs := [29]) (by kernel_rfl) (by simp) ?_
                    refine AllReadyH.cons rfl (fun KK hKK => ?_) AllReadyH.nil
                    go_simp
                    (go_at_call 75; with_reducible refine (CountCells_s A6 c6 rs _ hl6 (R3.out.below (by go_grown))).mono ?_; rintro e y2 ⟨rfl, hy2⟩; rw [HM.out]; replace P := P.bel (bl_trans (by go_grown) hy2); have Pc := P.c1; replace R3 := Lib.hid (R3.out.below (bl_trans (by go_grown) hy2)); replace RS := Lib.hid (RS.out.below (bl_trans (by go_grown) hy2)); replace HB := Lib.hid (bl_trans HB.out (bl_trans (by go_grown) hy2)); clear hy2)
                    refine hKK.out _ _ ?_ (fun hHeld => ?_)
                    · (try dsimp only); go_keep
                    clear hKK KK
                    (try simp only [Act.put, List.setIfInBounds_toArray, List.set_cons_zero, List.set_cons_succ])
                    refine takeX_ (i := 30) (d := some 162) (v := ?v1s30) rfl rfl (by kernel_rfl) (by kernel_rfl) (by kernel_rfl) (fun _ _ _ h => h) (Or.inl ⟨by rfl, ?hy1s30⟩) (by assumption) ?rest1s30
                    case hy1s30 => (intro w hSw; (try dsimp only at hSw); go_simp; first | done | with_reducible rfl)
                    (try simp only [Act.put, List.setIfInBounds_toArray, List.set_cons_zero, List.set_cons_succ])
                    refine takeX_ (i := 31) (d := some 163) (v := ?v1s31) rfl rfl (by kernel_rfl) (by kernel_rfl) (by kernel_rfl) (fun _ _ _ h => h) (Or.inl ⟨by rfl, ?hy1s31⟩) (by assumption) ?rest1s31
                    case hy1s31 => (intro w hSw; (try dsimp only at hSw); go_simp; first | done | with_reducible rfl)
                    (try simp only [Act.put, List.setIfInBounds_toArray, List.set_cons_zero, List.set_cons_succ])
                    refine takeX_ (i := 32) (d := some 164) (v := ?v1s32) rfl rfl (by kernel_rfl) (by kernel_rfl) (by kernel_rfl) (fun _ _ _ h => h) (Or.inl ⟨by rfl, ?hy1s32⟩) (by assumption) ?rest1s32
                    case hy1s32 => (intro w hSw; (try dsimp only at hSw); go_simp; first | done | with_reducible rfl)
                    (try simp only [Act.put, List.setIfInBounds_toArray, List.set_cons_zero, List.set_cons_succ])
                    refine takeX_ (i := 33) (d := some 165) (v := ?v1s33) rfl rfl (by kernel_rfl) (by kernel_rfl) (by kernel_rfl) (fun _ _ _ h => h) (Or.inl ⟨by rfl, ?hy1s33⟩) (by assumption) ?rest1s33
                    case hy1s33 => (intro w hSw; (try dsimp only at hSw); go_simp; first | done | with_reducible rfl)
                    (try simp only [Act.put, List.setIfInBounds_toArray, List.set_cons_zero, List.set_cons_succ])
                    refine takeX_ (i := 34) (d := some 166) (v := ?v1s34) rfl rfl (by kernel_rfl) (by kernel_rfl) (by kernel_rfl) (fun _ _ _ h => h) (Or.inl ⟨by rfl, ?hy1s34⟩) (by assumption) ?rest1s34
                    case hy1s34 => (intro w hSw; (try dsimp only at hSw); go_simp; first | done | with_reducible rfl)
                    (try simp only [Act.put, List.setIfInBounds_toArray, List.set_cons_zero, List.set_cons_succ])
                    refine takeX_ (i := 37) (d := some 169) (v := ?v1s37) rfl rfl (by kernel_rfl) (by kernel_rfl) (by kernel_rfl) (fun _ _ _ h => h) (Or.inl ⟨by rfl, ?hy1s37⟩) (by assumption) ?rest1s37
                    case hy1s37 => (intro w hSw; (try dsimp only at hSw); go_simp; first | done | with_reducible rfl)
                    (try simp only [Act.put, List.setIfInBounds_toArray, List.set_cons_zero, List.set_cons_succ])
                    refine wpAnyH_ready (rs := [35]) (by kernel_rfl) (by simp) ?_
                    refine AllReadyH.cons rfl (fun KK hKK => ?_) AllReadyH.nil
                    go_simp
                    have RDOM := Lib.hid (show RdC (y2.alloc (.cells #[.int .i64 0, .int .i64 0, .int .i64 1, .int .i64 0] 35)) (some ⟨y2.heap.size, 0, none⟩) domS from OwC.rd (Blk.ownC' (B := 0) (cap := 2) (l := domS) (rest := []) (show Blk (y2.alloc (.cells #[.int .i64 0, .int .i64 0, .int .i64 1, .int .i64 0] 35)) y2.heap.size 35 (domS.flatMap cC ++ []) from Blk.new y2 35 [.int .i64 0, .int .i64 0, .int .i64 1, .int .i64 0]) (Nat.zero_le _) (by decide) (by decide) (by decide) (fun x hx => by simp [domS] at hx; rcases hx with rfl | rfl <;> exact ⟨⟨by decide, by decide⟩, by decide, by decide⟩)))
                    refine hKK.out _ _ ?_ (fun hHeld => ?_)
                    · (try dsimp only); go_keep
                    clear hKK KK
                    (try simp only [Act.put, List.setIfInBounds_toArray, List.set_cons_zero, List.set_cons_succ])
                    refine wpAnyH_ready (rs := [36]) (by kernel_rfl) (by simp) ?_
                    refine AllReadyH.cons rfl (fun KK hKK => ?_) AllReadyH.nil
                    go_simp
                    (go_at_call 76; with_reducible refine (CountShape_i A6 c6 rs _ 2 2 domS _ hl6 (R3.out.below (by go_grown)) rfl (by decide) RDOM.out).mono ?_; rintro e y3 ⟨rfl, hy3⟩; rw [Hcs.out]; replace P := P.bel (bl_trans (by go_grown) hy3); have Pc := P.c1; replace R3 := Lib.hid (R3.out.below (bl_trans (by go_grown) hy3)); replace RS := Lib.hid (RS.out.below (bl_trans (by go_grown) hy3)); replace HB := Lib.hid (bl_trans HB.out (bl_trans (by go_grown) hy3)); clear hy3)
                    refine hKK.out _ _ ?_ (fun hHeld => ?_)
                    · (try dsimp only); go_keep
                    clear hKK KK
                    (try simp only [Act.put, List.setIfInBounds_toArray, List.set_cons_zero, List.set_cons_succ])
                    refine wpAnyH_ready (rs := [38]) (by kernel_rfl) (by simp) ?_
                    refine AllReadyH.cons rfl (fun KK hKK => ?_) AllReadyH.nil
                    go_simp
                    (go_at_call 77; with_reducible refine (CountTilings_s A6 c6 rs _ hl6 (R3.out.below (by go_grown))).mono ?_; rintro e y4 ⟨rfl, hy4⟩; rw [Hct.out]; replace P := P.bel (bl_trans (by go_grown) hy4); have Pc := P.c1; replace R3 := Lib.hid (R3.out.below (bl_trans (by go_grown) hy4)); replace RS := Lib.hid (RS.out.below (bl_trans (by go_grown) hy4)); replace HB := Lib.hid (bl_trans HB.out (bl_trans (by go_grown) hy4)); clear hy4)
                    refine hKK.out _ _ ?_ (fun hHeld => ?_)
                    · (try dsimp only); go_keep
                    clear hKK KK
                    (try simp only [Act.put, List.setIfInBounds_toArray, List.set_cons_zero, List.set_cons_succ])
                    refine takeX_ (i := 39) (d := some 171) (v := ?v1s39) rfl rfl (by kernel_rfl) (by kernel_rfl) (by kernel_rfl) (fun _ _ _ h => h) (Or.inl ⟨by rfl, ?hy1s39⟩) (by assumption) ?rest1s39
                    case hy1s39 => (intro w hSw; (try dsimp only at hSw); go_simp; first | done | with_reducible rfl)
                    (try simp only [Act.put, List.setIfInBounds_toArray, List.set_cons_zero, List.set_cons_succ])
                    refine takeX_ (i := 40) (d := some 172) (v := ?v1s40) rfl rfl (by kernel_rfl) (by kernel_rfl) (by kernel_rfl) (fun _ _ _ h => h) (Or.inl ⟨by rfl, ?hy1s40⟩) (by assumption) ?rest1s40
                    case hy1s40 => (intro w hSw; (try dsimp only at hSw); go_simp; first | done | with_reducible rfl)
                    (try simp only [Act.put, List.setIfInBounds_toArray, List.set_cons_zero, List.set_cons_succ])
                    refine takeX_ (i := 41) (d := some 173) (v := ?v1s41) rfl rfl (by kernel_rfl) (by kernel_rfl) (by kernel_rfl) (fun _ _ _ h => h) (Or.inl ⟨by rfl, ?hy1s41⟩) (by assumption) ?rest1s41
                    case hy1s41 => (intro w hSw; (try dsimp only at hSw); go_simp; first | done | with_reducible rfl)
                    (try simp only [Act.put, List.setIfInBounds_toArray, List.set_cons_zero, List.set_cons_succ])
                    refine takeX_ (i := 42) (d := some 2) (v := ?v1s42) rfl rfl (by kernel_rfl) (by kernel_rfl) (by kernel_rfl) (fun _ _ _ h => h) (Or.inl ⟨by rfl, ?hy1s42⟩) (by assumption) ?rest1s42
                    case hy1s42 => (intro w hSw; (try dsimp only at hSw); go_simp; first | done | with_reducible rfl)
                    (try simp only [Act.put, List.setIfInBounds_toArray, List.set_cons_zero, List.set_cons_succ])
                    refine wpAnyH_done (by kernel_rfl) ?_ _
                    all_goals (go_wp2_with fail; go_ret; exact ⟨rfl, HB.out⟩)
                  · rw [show (T.length : Int) = 2 by omega]
                    have Hsym := Lib.hid (show symR s = true by rw [Hsym0.out, hn]; rfl)
                    clear hn Hlen Hsym0
                    refine wp_region_held_drew (S := (fun w' : World => w'.cell? ⟨gr, 0, none⟩ = some (.slice A6 rs.length c6))) (by kernel_rfl) ?_ (fun hHeld => ?_)
                    · (try dsimp only); go_keep
                    refine takeX_ (i := 0) (d := some 132) (v := ?v2s0) rfl rfl (by kernel_rfl) (by kernel_rfl) (by kernel_rfl) (fun _ _ _ h => h) (Or.inl ⟨by rfl, ?hy2s0⟩) (by assumption) ?rest2s0
                    case hy2s0 => (intro w hSw; (try dsimp only at hSw); go_simp; first | done | with_reducible rfl)
                    (try simp only [Act.put, List.setIfInBounds_toArray, List.set_cons_zero, List.set_cons_succ])
                    refine takeX_ (i := 1) (d := some 133) (v := ?v2s1) rfl rfl (by kernel_rfl) (by kernel_rfl) (by kernel_rfl) (fun _ _ _ h => h) (Or.inl ⟨by rfl, ?hy2s1⟩) (by assumption) ?rest2s1
                    case hy2s1 => (intro w hSw; (try dsimp only at hSw); go_simp; first | done | with_reducible rfl)
                    (try simp only [Act.put, List.setIfInBounds_toArray, List.set_cons_zero, List.set_cons_succ])
                    refine takeX_ (i := 2) (d := some 134) (v := ?v2s2) rfl rfl (by kernel_rfl) (by kernel_rfl) (by kernel_rfl) (fun _ _ _ h => h) (Or.inl ⟨by rfl, ?hy2s2⟩) (by assumption) ?rest2s2
                    case hy2s2 => (intro w hSw; (try dsimp only at hSw); go_simp; first | done | with_reducible rfl)
                    (try simp only [Act.put, List.setIfInBounds_toArray, List.set_cons_zero, List.set_cons_succ])
                    refine takeX_ (i := 3) (d := some 135) (v := ?v2s3) rfl rfl (by kernel_rfl) (by kernel_rfl) (by kernel_rfl) (fun _ _ _ h => h) (Or.inl ⟨by rfl, ?hy2s3⟩) (by assumption) ?rest2s3
                    case hy2s3 => (intro w hSw; (try dsimp only at hSw); go_simp; first | done | with_reducible rfl)
                    (try simp only [Act.put, List.setIfInBounds_toArray, List.set_cons_zero, List.set_cons_succ])
                    refine takeX_ (i := 4) (d := some 136) (v := ?v2s4) rfl rfl (by kernel_rfl) (by kernel_rfl) (by kernel_rfl) (fun _ _ _ h => h) (Or.inl ⟨by rfl, ?hy2s4⟩) (by assumption) ?rest2s4
                    case hy2s4 => (intro w hSw; (try dsimp only at hSw); go_simp; first | done | with_reducible rfl)
                    (try simp only [Act.put, List.setIfInBounds_toArray, List.set_cons_zero, List.set_cons_succ])
                    refine takeX_ (i := 5) (d := some 137) (v := ?v2s5) rfl rfl (by kernel_rfl) (by kernel_rfl) (by kernel_rfl) (fun _ _ _ h => h) (Or.inl ⟨by rfl, ?hy2s5⟩) (by assumption) ?rest2s5
                    case hy2s5 => (intro w hSw; (try dsimp only at hSw); go_simp; first | done | with_reducible rfl)
                    (try simp only [Act.put, List.setIfInBounds_toArray, List.set_cons_zero, List.set_cons_succ])
                    refine takeX_ (i := 6) (d := some 138) (v := ?v2s6) rfl rfl (by kernel_rfl) (by kernel_rfl) (by kernel_rfl) (fun _ _ _ h => h) (Or.inl ⟨by rfl, ?hy2s6⟩) (by assumption) ?rest2s6
                    case hy2s6 => (intro w hSw; (try dsimp only at hSw); go_simp; first | done | with_reducible rfl)
                    (try simp only [Act.put, List.setIfInBounds_toArray, List.set_cons_zero, List.set_cons_succ])
                    refine takeX_ (i := 7) (d := some 139) (v := ?v2s7) rfl rfl (by kernel_rfl) (by kernel_rfl) (by kernel_rfl) (fun _ _ _ h => h) (Or.inl ⟨by rfl, ?hy2s7⟩) (by assumption) ?rest2s7
                    case hy2s7 => (intro w hSw; (try dsimp only at hSw); go_simp; first | done | with_reducible rfl)
                    (try simp only [Act.put, List.setIfInBounds_toArray, List.set_cons_zero, List.set_cons_succ])
                    refine takeX_ (i := 8) (d := some 140) (v := ?v2s8) rfl rfl (by kernel_rfl) (by kernel_rfl) (by kernel_rfl) (fun _ _ _ h => h) (Or.inl ⟨by rfl, ?hy2s8⟩) (by assumption) ?rest2s8
                    case hy2s8 => (intro w hSw; (try dsimp only at hSw); go_simp; first | done | with_reducible rfl)
                    (try simp only [Act.put, List.setIfInBounds_toArray, List.set_cons_zero, List.set_cons_succ])
                    refine takeX_ (i := 9) (d := some 141) (v := ?v2s9) rfl rfl (by kernel_rfl) (by kernel_rfl) (by kernel_rfl) (fun _ _ _ h => h) (Or.inl ⟨by rfl, ?hy2s9⟩) (by assumption) ?rest2s9
                    case hy2s9 => (intro w hSw; (try dsimp only at hSw); go_simp; first | done | with_reducible rfl)
                    (try simp only [Act.put, List.setIfInBounds_toArray, List.set_cons_zero, List.set_cons_succ])
                    refine takeX_ (i := 10) (d := some 142) (v := ?v2s10) rfl rfl (by kernel_rfl) (by kernel_rfl) (by kernel_rfl) (fun _ _ _ h => h) (Or.inl ⟨by rfl, ?hy2s10⟩) (by assumption) ?rest2s10
                    case hy2s10 => (intro w hSw; (try dsimp only at hSw); go_simp; first | done | with_reducible rfl)
                    (try simp only [Act.put, List.setIfInBounds_toArray, List.set_cons_zero, List.set_cons_succ])
                    refine takeX_ (i := 11) (d := some 143) (v := ?v2s11) rfl rfl (by kernel_rfl) (by kernel_rfl) (by kernel_rfl) (fun _ _ _ h => h) (Or.inl ⟨by rfl, ?hy2s11⟩) (by assumption) ?rest2s11
                    case hy2s11 => (intro w hSw; (try dsimp only at hSw); go_simp; first | done | with_reducible rfl)
                    (try simp only [Act.put, List.setIfInBounds_toArray, List.set_cons_zero, List.set_cons_succ])
                    refine takeX_ (i := 12) (d := some 144) (v := undef) rfl rfl (by kernel_rfl) (by kernel_rfl) (by kernel_rfl) (fun _ _ _ h => h) (Or.inr ⟨by rfl, rfl⟩) (by assumption) ?_
                    (try simp only [Act.put, List.setIfInBounds_toArray, List.set_cons_zero, List.set_cons_succ])
                    refine takeX_ (i := 13) (d := some 145) (v := undef) rfl rfl (by kernel_rfl) (by kernel_rfl) (by kernel_rfl) (fun _ _ _ h => h) (Or.inr ⟨by rfl, rfl⟩) (by assumption) ?_
                    (try simp only [Act.put, List.setIfInBounds_toArray, List.set_cons_zero, List.set_cons_succ])
                    refine takeX_ (i := 14) (d := some 146) (v := ?v2s14) rfl rfl (by kernel_rfl) (by kernel_rfl) (by kernel_rfl) (fun _ _ _ h => h) (Or.inl ⟨by rfl, ?hy2s14⟩) (by assumption) ?rest2s14
                    case hy2s14 => (intro w hSw; (try dsimp only at hSw); go_simp; first | done | with_reducible rfl)
                    (try simp only [Act.put, List.setIfInBounds_toArray, List.set_cons_zero, List.set_cons_succ])
                    refine takeX_ (i := 15) (d := some 147) (v := ?v2s15) rfl rfl (by kernel_rfl) (by kernel_rfl) (by kernel_rfl) (fun _ _ _ h => h) (Or.inl ⟨by rfl, ?hy2s15⟩) (by assumption) ?rest2s15
                    case hy2s15 => (intro w hSw; (try dsimp only at hSw); go_simp; first | done | with_reducible rfl)
                    (try simp only [Act.put, List.setIfInBounds_toArray, List.set_cons_zero, List.set_cons_succ])
                    refine takeX_ (i := 16) (d := some 148) (v := undef) rfl rfl (by kernel_rfl) (by kernel_rfl) (by kernel_rfl) (fun _ _ _ h => h) (Or.inr ⟨by rfl, rfl⟩) (by assumption) ?_
                    (try simp only [Act.put, List.setIfInBounds_toArray, List.set_cons_zero, List.set_cons_succ])
                    refine takeX_ (i := 17) (d := some 149) (v := undef) rfl rfl (by kernel_rfl) (by kernel_rfl) (by kernel_rfl) (fun _ _ _ h => h) (Or.inr ⟨by rfl, rfl⟩) (by assumption) ?_
                    (try simp only [Act.put, List.setIfInBounds_toArray, List.set_cons_zero, List.set_cons_succ])
                    refine takeX_ (i := 18) (d := some 150) (v := ?v2s18) rfl rfl (by kernel_rfl) (by kernel_rfl) (by kernel_rfl) (fun _ _ _ h => h) (Or.inl ⟨by rfl, ?hy2s18⟩) (by assumption) ?rest2s18
                    case hy2s18 => (intro w hSw; (try dsimp only at hSw); go_simp; first | done | with_reducible rfl)
                    (try simp only [Act.put, List.setIfInBounds_toArray, List.set_cons_zero, List.set_cons_succ])
                    refine takeX_ (i := 19) (d := some 151) (v := ?v2s19) rfl rfl (by kernel_rfl) (by kernel_rfl) (by kernel_rfl) (fun _ _ _ h => h) (Or.inl ⟨by rfl, ?hy2s19⟩) (by assumption) ?rest2s19
                    case hy2s19 => (intro w hSw; (try dsimp only at hSw); go_simp; first | done | with_reducible rfl)
                    (try simp only [Act.put, List.setIfInBounds_toArray, List.set_cons_zero, List.set_cons_succ])
                    refine takeX_ (i := 20) (d := some 152) (v := ?v2s20) rfl rfl (by kernel_rfl) (by kernel_rfl) (by kernel_rfl) (fun _ _ _ h => h) (Or.inl ⟨by rfl, ?hy2s20⟩) (by assumption) ?rest2s20
                    case hy2s20 => (intro w hSw; (try dsimp only at hSw); go_simp; first | done | with_reducible rfl)
                    (try simp only [Act.put, List.setIfInBounds_toArray, List.set_cons_zero, List.set_cons_succ])
                    refine takeX_ (i := 21) (d := some 153) (v := ?v2s21) rfl rfl (by kernel_rfl) (by kernel_rfl) (by kernel_rfl) (fun _ _ _ h => h) (Or.inl ⟨by rfl, ?hy2s21⟩) (by assumption) ?rest2s21
                    case hy2s21 => (intro w hSw; (try dsimp only at hSw); go_simp; first | done | with_reducible rfl)
                    (try simp only [Act.put, List.setIfInBounds_toArray, List.set_cons_zero, List.set_cons_succ])
                    refine takeX_ (i := 23) (d := some 155) (v := ?v2s23) rfl rfl (by kernel_rfl) (by kernel_rfl) (by kernel_rfl) (fun _ _ _ h => h) (Or.inl ⟨by rfl, ?hy2s23⟩) (by assumption) ?rest2s23
                    case hy2s23 => (intro w hSw; (try dsimp only at hSw); go_simp; first | done | with_reducible rfl)
                    (try simp only [Act.put, List.setIfInBounds_toArray, List.set_cons_zero, List.set_cons_succ])
                    refine takeX_ (i := 24) (d := some 156) (v := ?v2s24) rfl rfl (by kernel_rfl) (by kernel_rfl) (by kernel_rfl) (fun _ _ _ h => h) (Or.inl ⟨by rfl, ?hy2s24⟩) (by assumption) ?rest2s24
                    case hy2s24 => (intro w hSw; (try dsimp only at hSw); go_simp; first | done | with_reducible rfl)
                    (try simp only [Act.put, List.setIfInBounds_toArray, List.set_cons_zero, List.set_cons_succ])
                    refine wpAnyH_ready (rs := [22]) (by kernel_rfl) (by simp) ?_
                    refine AllReadyH.cons rfl (fun KK hKK => ?_) AllReadyH.nil
                    go_simp
                    (go_at_call 74; with_reducible refine (IsSymmetricShape_i A nS c s _ HnS.out hnl (RS.out.below (by go_grown))).mono ?_; rintro e y1 ⟨rfl, hy1⟩; rw [Hsym.out]; replace P := P.bel (bl_trans (by go_grown) hy1); have Pc := P.c1; replace R3 := Lib.hid (R3.out.below (bl_trans (by go_grown) hy1)); replace RS := Lib.hid (RS.out.below (bl_trans (by go_grown) hy1)); replace HB := Lib.hid (bl_trans HB.out (bl_trans (by go_grown) hy1)); clear hy1)
                    refine hKK.out _ _ ?_ (fun hHeld => ?_)
                    · (try dsimp only); go_keep
                    clear hKK KK
                    (try simp only [Act.put, List.setIfInBounds_toArray, List.set_cons_zero, List.set_cons_succ])
                    refine takeX_ (i := 25) (d := some 157) (v := ?v2s25) rfl rfl (by kernel_rfl) (by kernel_rfl) (by kernel_rfl) (fun _ _ _ h => h) (Or.inl ⟨by rfl, ?hy2s25⟩) (by assumption) ?rest2s25
                    case hy2s25 => (intro w hSw; (try dsimp only at hSw); go_simp; first | done | with_reducible rfl)
                    (try simp only [Act.put, List.setIfInBounds_toArray, List.set_cons_zero, List.set_cons_succ])
                    refine takeX_ (i := 26) (d := some 158) (v := ?v2s26) rfl rfl (by kernel_rfl) (by kernel_rfl) (by kernel_rfl) (fun _ _ _ h => h) (Or.inl ⟨by rfl, ?hy2s26⟩) (by assumption) ?rest2s26
                    case hy2s26 => (intro w hSw; (try dsimp only at hSw); go_simp; first | done | with_reducible rfl)
                    (try simp only [Act.put, List.setIfInBounds_toArray, List.set_cons_zero, List.set_cons_succ])
                    refine takeX_ (i := 27) (d := some 159) (v := ?v2s27) rfl rfl (by kernel_rfl) (by kernel_rfl) (by kernel_rfl) (fun _ _ _ h => h) (Or.inl ⟨by rfl, ?hy2s27⟩) (by assumption) ?rest2s27
                    case hy2s27 => (intro w hSw; (try dsimp only at hSw); go_simp; first | done | with_reducible rfl)
                    (try simp only [Act.put, List.setIfInBounds_toArray, List.set_cons_zero, List.set_cons_succ])
                    refine takeX_ (i := 28) (d := some 160) (v := ?v2s28) rfl rfl (by kernel_rfl) (by kernel_rfl) (by kernel_rfl) (fun _ _ _ h => h) (Or.inl ⟨by rfl, ?hy2s28⟩) (by assumption) ?rest2s28
                    case hy2s28 => (intro w hSw; (try dsimp only at hSw); go_simp; first | done | with_reducible rfl)
                    (try simp only [Act.put, List.setIfInBounds_toArray, List.set_cons_zero, List.set_cons_succ])
                    refine wpAnyH_ready (rs := [29]) (by kernel_rfl) (by simp) ?_
                    refine AllReadyH.cons rfl (fun KK hKK => ?_) AllReadyH.nil
                    go_simp
                    (go_at_call 75; with_reducible refine (CountCells_s A6 c6 rs _ hl6 (R3.out.below (by go_grown))).mono ?_; rintro e y2 ⟨rfl, hy2⟩; rw [HM.out]; replace P := P.bel (bl_trans (by go_grown) hy2); have Pc := P.c1; replace R3 := Lib.hid (R3.out.below (bl_trans (by go_grown) hy2)); replace RS := Lib.hid (RS.out.below (bl_trans (by go_grown) hy2)); replace HB := Lib.hid (bl_trans HB.out (bl_trans (by go_grown) hy2)); clear hy2)
                    refine hKK.out _ _ ?_ (fun hHeld => ?_)
                    · (try dsimp only); go_keep
                    clear hKK KK
                    (try simp only [Act.put, List.setIfInBounds_toArray, List.set_cons_zero, List.set_cons_succ])
                    refine takeX_ (i := 30) (d := some 162) (v := ?v2s30) rfl rfl (by kernel_rfl) (by kernel_rfl) (by kernel_rfl) (fun _ _ _ h => h) (Or.inl ⟨by rfl, ?hy2s30⟩) (by assumption) ?rest2s30
                    case hy2s30 => (intro w hSw; (try dsimp only at hSw); go_simp; first | done | with_reducible rfl)
                    (try simp only [Act.put, List.setIfInBounds_toArray, List.set_cons_zero, List.set_cons_succ])
                    refine takeX_ (i := 31) (d := some 163) (v := ?v2s31) rfl rfl (by kernel_rfl) (by kernel_rfl) (by kernel_rfl) (fun _ _ _ h => h) (Or.inl ⟨by rfl, ?hy2s31⟩) (by assumption) ?rest2s31
                    case hy2s31 => (intro w hSw; (try dsimp only at hSw); go_simp; first | done | with_reducible rfl)
                    (try simp only [Act.put, List.setIfInBounds_toArray, List.set_cons_zero, List.set_cons_succ])
                    refine takeX_ (i := 32) (d := some 164) (v := ?v2s32) rfl rfl (by kernel_rfl) (by kernel_rfl) (by kernel_rfl) (fun _ _ _ h => h) (Or.inl ⟨by rfl, ?hy2s32⟩) (by assumption) ?rest2s32
                    case hy2s32 => (intro w hSw; (try dsimp only at hSw); go_simp; first | done | with_reducible rfl)
                    (try simp only [Act.put, List.setIfInBounds_toArray, List.set_cons_zero, List.set_cons_succ])
                    refine takeX_ (i := 33) (d := some 165) (v := ?v2s33) rfl rfl (by kernel_rfl) (by kernel_rfl) (by kernel_rfl) (fun _ _ _ h => h) (Or.inl ⟨by rfl, ?hy2s33⟩) (by assumption) ?rest2s33
                    case hy2s33 => (intro w hSw; (try dsimp only at hSw); go_simp; first | done | with_reducible rfl)
                    (try simp only [Act.put, List.setIfInBounds_toArray, List.set_cons_zero, List.set_cons_succ])
                    refine takeX_ (i := 34) (d := some 166) (v := ?v2s34) rfl rfl (by kernel_rfl) (by kernel_rfl) (by kernel_rfl) (fun _ _ _ h => h) (Or.inl ⟨by rfl, ?hy2s34⟩) (by assumption) ?rest2s34
                    case hy2s34 => (intro w hSw; (try dsimp only at hSw); go_simp; first | done | with_reducible rfl)
                    (try simp only [Act.put, List.setIfInBounds_toArray, List.set_cons_zero, List.set_cons_succ])
                    refine takeX_ (i := 37) (d := some 169) (v := ?v2s37) rfl rfl (by kernel_rfl) (by kernel_rfl) (by kernel_rfl) (fun _ _ _ h => h) (Or.inl ⟨by rfl, ?hy2s37⟩) (by assumption) ?rest2s37
                    case hy2s37 => (intro w hSw; (try dsimp only at hSw); go_simp; first | done | with_reducible rfl)
                    (try simp only [Act.put, List.setIfInBounds_toArray, List.set_cons_zero, List.set_cons_succ])
                    refine wpAnyH_ready (rs := [35]) (by kernel_rfl) (by simp) ?_
                    refine AllReadyH.cons rfl (fun KK hKK => ?_) AllReadyH.nil
                    go_simp
                    have RDOM := Lib.hid (show RdC (y2.alloc (.cells #[.int .i64 0, .int .i64 0, .int .i64 1, .int .i64 0] 35)) (some ⟨y2.heap.size, 0, none⟩) domS from OwC.rd (Blk.ownC' (B := 0) (cap := 2) (l := domS) (rest := []) (show Blk (y2.alloc (.cells #[.int .i64 0, .int .i64 0, .int .i64 1, .int .i64 0] 35)) y2.heap.size 35 (domS.flatMap cC ++ []) from Blk.new y2 35 [.int .i64 0, .int .i64 0, .int .i64 1, .int .i64 0]) (Nat.zero_le _) (by decide) (by decide) (by decide) (fun x hx => by simp [domS] at hx; rcases hx with rfl | rfl <;> exact ⟨⟨by decide, by decide⟩, by decide, by decide⟩)))
                    refine hKK.out _ _ ?_ (fun hHeld => ?_)
                    · (try dsimp only); go_keep
                    clear hKK KK
                    (try simp only [Act.put, List.setIfInBounds_toArray, List.set_cons_zero, List.set_cons_succ])
                    refine wpAnyH_ready (rs := [36]) (by kernel_rfl) (by simp) ?_
                    refine AllReadyH.cons rfl (fun KK hKK => ?_) AllReadyH.nil
                    go_simp
                    (go_at_call 76; with_reducible refine (CountShape_i A6 c6 rs _ 2 2 domS _ hl6 (R3.out.below (by go_grown)) rfl (by decide) RDOM.out).mono ?_; rintro e y3 ⟨rfl, hy3⟩; rw [Hcs.out]; replace P := P.bel (bl_trans (by go_grown) hy3); have Pc := P.c1; replace R3 := Lib.hid (R3.out.below (bl_trans (by go_grown) hy3)); replace RS := Lib.hid (RS.out.below (bl_trans (by go_grown) hy3)); replace HB := Lib.hid (bl_trans HB.out (bl_trans (by go_grown) hy3)); clear hy3)
                    refine hKK.out _ _ ?_ (fun hHeld => ?_)
                    · (try dsimp only); go_keep
                    clear hKK KK
                    (try simp only [Act.put, List.setIfInBounds_toArray, List.set_cons_zero, List.set_cons_succ])
                    refine wpAnyH_ready (rs := [38]) (by kernel_rfl) (by simp) ?_
                    refine AllReadyH.cons rfl (fun KK hKK => ?_) AllReadyH.nil
                    go_simp
                    (go_at_call 77; with_reducible refine (CountTilings_s A6 c6 rs _ hl6 (R3.out.below (by go_grown))).mono ?_; rintro e y4 ⟨rfl, hy4⟩; rw [Hct.out]; replace P := P.bel (bl_trans (by go_grown) hy4); have Pc := P.c1; replace R3 := Lib.hid (R3.out.below (bl_trans (by go_grown) hy4)); replace RS := Lib.hid (RS.out.below (bl_trans (by go_grown) hy4)); replace HB := Lib.hid (bl_trans HB.out (bl_trans (by go_grown) hy4)); clear hy4)
                    refine hKK.out _ _ ?_ (fun hHeld => ?_)
                    · (try dsimp only); go_keep
                    clear hKK KK
                    (try simp only [Act.put, List.setIfInBounds_toArray, List.set_cons_zero, List.set_cons_succ])
                    refine takeX_ (i := 39) (d := some 171) (v := ?v2s39) rfl rfl (by kernel_rfl) (by kernel_rfl) (by kernel_rfl) (fun _ _ _ h => h) (Or.inl ⟨by rfl, ?hy2s39⟩) (by assumption) ?rest2s39
                    case hy2s39 => (intro w hSw; (try dsimp only at hSw); go_simp; first | done | with_reducible rfl)
                    (try simp only [Act.put, List.setIfInBounds_toArray, List.set_cons_zero, List.set_cons_succ])
                    refine takeX_ (i := 40) (d := some 172) (v := ?v2s40) rfl rfl (by kernel_rfl) (by kernel_rfl) (by kernel_rfl) (fun _ _ _ h => h) (Or.inl ⟨by rfl, ?hy2s40⟩) (by assumption) ?rest2s40
                    case hy2s40 => (intro w hSw; (try dsimp only at hSw); go_simp; first | done | with_reducible rfl)
                    (try simp only [Act.put, List.setIfInBounds_toArray, List.set_cons_zero, List.set_cons_succ])
                    refine takeX_ (i := 41) (d := some 173) (v := ?v2s41) rfl rfl (by kernel_rfl) (by kernel_rfl) (by kernel_rfl) (fun _ _ _ h => h) (Or.inl ⟨by rfl, ?hy2s41⟩) (by assumption) ?rest2s41
                    case hy2s41 => (intro w hSw; (try dsimp only at hSw); go_simp; first | done | with_reducible rfl)
                    (try simp only [Act.put, List.setIfInBounds_toArray, List.set_cons_zero, List.set_cons_succ])
                    refine takeX_ (i := 42) (d := some 2) (v := ?v2s42) rfl rfl (by kernel_rfl) (by kernel_rfl) (by kernel_rfl) (fun _ _ _ h => h) (Or.inl ⟨by rfl, ?hy2s42⟩) (by assumption) ?rest2s42
                    case hy2s42 => (intro w hSw; (try dsimp only at hSw); go_simp; first | done | with_reducible rfl)
                    (try simp only [Act.put, List.setIfInBounds_toArray, List.set_cons_zero, List.set_cons_succ])
                    refine wpAnyH_done (by kernel_rfl) ?_ _
                    all_goals (go_wp2_with fail; go_ret; exact ⟨rfl, HB.out⟩)
                  · rw [show (T.length : Int) = 4 by omega]
                    have Hsym := Lib.hid (show symR s = true by rw [Hsym0.out, hn]; rfl)
                    clear hn Hlen Hsym0
                    refine wp_region_held_drew (S := (fun w' : World => w'.cell? ⟨gr, 0, none⟩ = some (.slice A6 rs.length c6))) (by kernel_rfl) ?_ (fun hHeld => ?_)
                    · (try dsimp only); go_keep
                    refine takeX_ (i := 0) (d := some 132) (v := ?v4s0) rfl rfl (by kernel_rfl) (by kernel_rfl) (by kernel_rfl) (fun _ _ _ h => h) (Or.inl ⟨by rfl, ?hy4s0⟩) (by assumption) ?rest4s0
                    case hy4s0 => (intro w hSw; (try dsimp only at hSw); go_simp; first | done | with_reducible rfl)
                    (try simp only [Act.put, List.setIfInBounds_toArray, List.set_cons_zero, List.set_cons_succ])
                    refine takeX_ (i := 1) (d := some 133) (v := ?v4s1) rfl rfl (by kernel_rfl) (by kernel_rfl) (by kernel_rfl) (fun _ _ _ h => h) (Or.inl ⟨by rfl, ?hy4s1⟩) (by assumption) ?rest4s1
                    case hy4s1 => (intro w hSw; (try dsimp only at hSw); go_simp; first | done | with_reducible rfl)
                    (try simp only [Act.put, List.setIfInBounds_toArray, List.set_cons_zero, List.set_cons_succ])
                    refine takeX_ (i := 2) (d := some 134) (v := ?v4s2) rfl rfl (by kernel_rfl) (by kernel_rfl) (by kernel_rfl) (fun _ _ _ h => h) (Or.inl ⟨by rfl, ?hy4s2⟩) (by assumption) ?rest4s2
                    case hy4s2 => (intro w hSw; (try dsimp only at hSw); go_simp; first | done | with_reducible rfl)
                    (try simp only [Act.put, List.setIfInBounds_toArray, List.set_cons_zero, List.set_cons_succ])
                    refine takeX_ (i := 3) (d := some 135) (v := ?v4s3) rfl rfl (by kernel_rfl) (by kernel_rfl) (by kernel_rfl) (fun _ _ _ h => h) (Or.inl ⟨by rfl, ?hy4s3⟩) (by assumption) ?rest4s3
                    case hy4s3 => (intro w hSw; (try dsimp only at hSw); go_simp; first | done | with_reducible rfl)
                    (try simp only [Act.put, List.setIfInBounds_toArray, List.set_cons_zero, List.set_cons_succ])
                    refine takeX_ (i := 4) (d := some 136) (v := ?v4s4) rfl rfl (by kernel_rfl) (by kernel_rfl) (by kernel_rfl) (fun _ _ _ h => h) (Or.inl ⟨by rfl, ?hy4s4⟩) (by assumption) ?rest4s4
                    case hy4s4 => (intro w hSw; (try dsimp only at hSw); go_simp; first | done | with_reducible rfl)
                    (try simp only [Act.put, List.setIfInBounds_toArray, List.set_cons_zero, List.set_cons_succ])
                    refine takeX_ (i := 5) (d := some 137) (v := ?v4s5) rfl rfl (by kernel_rfl) (by kernel_rfl) (by kernel_rfl) (fun _ _ _ h => h) (Or.inl ⟨by rfl, ?hy4s5⟩) (by assumption) ?rest4s5
                    case hy4s5 => (intro w hSw; (try dsimp only at hSw); go_simp; first | done | with_reducible rfl)
                    (try simp only [Act.put, List.setIfInBounds_toArray, List.set_cons_zero, List.set_cons_succ])
                    refine takeX_ (i := 6) (d := some 138) (v := ?v4s6) rfl rfl (by kernel_rfl) (by kernel_rfl) (by kernel_rfl) (fun _ _ _ h => h) (Or.inl ⟨by rfl, ?hy4s6⟩) (by assumption) ?rest4s6
                    case hy4s6 => (intro w hSw; (try dsimp only at hSw); go_simp; first | done | with_reducible rfl)
                    (try simp only [Act.put, List.setIfInBounds_toArray, List.set_cons_zero, List.set_cons_succ])
                    refine takeX_ (i := 7) (d := some 139) (v := ?v4s7) rfl rfl (by kernel_rfl) (by kernel_rfl) (by kernel_rfl) (fun _ _ _ h => h) (Or.inl ⟨by rfl, ?hy4s7⟩) (by assumption) ?rest4s7
                    case hy4s7 => (intro w hSw; (try dsimp only at hSw); go_simp; first | done | with_reducible rfl)
                    (try simp only [Act.put, List.setIfInBounds_toArray, List.set_cons_zero, List.set_cons_succ])
                    refine takeX_ (i := 8) (d := some 140) (v := ?v4s8) rfl rfl (by kernel_rfl) (by kernel_rfl) (by kernel_rfl) (fun _ _ _ h => h) (Or.inl ⟨by rfl, ?hy4s8⟩) (by assumption) ?rest4s8
                    case hy4s8 => (intro w hSw; (try dsimp only at hSw); go_simp; first | done | with_reducible rfl)
                    (try simp only [Act.put, List.setIfInBounds_toArray, List.set_cons_zero, List.set_cons_succ])
                    refine takeX_ (i := 9) (d := some 141) (v := ?v4s9) rfl rfl (by kernel_rfl) (by kernel_rfl) (by kernel_rfl) (fun _ _ _ h => h) (Or.inl ⟨by rfl, ?hy4s9⟩) (by assumption) ?rest4s9
                    case hy4s9 => (intro w hSw; (try dsimp only at hSw); go_simp; first | done | with_reducible rfl)
                    (try simp only [Act.put, List.setIfInBounds_toArray, List.set_cons_zero, List.set_cons_succ])
                    refine takeX_ (i := 10) (d := some 142) (v := ?v4s10) rfl rfl (by kernel_rfl) (by kernel_rfl) (by kernel_rfl) (fun _ _ _ h => h) (Or.inl ⟨by rfl, ?hy4s10⟩) (by assumption) ?rest4s10
                    case hy4s10 => (intro w hSw; (try dsimp only at hSw); go_simp; first | done | with_reducible rfl)
                    (try simp only [Act.put, List.setIfInBounds_toArray, List.set_cons_zero, List.set_cons_succ])
                    refine takeX_ (i := 11) (d := some 143) (v := ?v4s11) rfl rfl (by kernel_rfl) (by kernel_rfl) (by kernel_rfl) (fun _ _ _ h => h) (Or.inl ⟨by rfl, ?hy4s11⟩) (by assumption) ?rest4s11
                    case hy4s11 => (intro w hSw; (try dsimp only at hSw); go_simp; first | done | with_reducible rfl)
                    (try simp only [Act.put, List.setIfInBounds_toArray, List.set_cons_zero, List.set_cons_succ])
                    refine takeX_ (i := 12) (d := some 144) (v := ?v4s12) rfl rfl (by kernel_rfl) (by kernel_rfl) (by kernel_rfl) (fun _ _ _ h => h) (Or.inl ⟨by rfl, ?hy4s12⟩) (by assumption) ?rest4s12
                    case hy4s12 => (intro w hSw; (try dsimp only at hSw); go_simp; first | done | with_reducible rfl)
                    (try simp only [Act.put, List.setIfInBounds_toArray, List.set_cons_zero, List.set_cons_succ])
                    refine takeX_ (i := 13) (d := some 145) (v := ?v4s13) rfl rfl (by kernel_rfl) (by kernel_rfl) (by kernel_rfl) (fun _ _ _ h => h) (Or.inl ⟨by rfl, ?hy4s13⟩) (by assumption) ?rest4s13
                    case hy4s13 => (intro w hSw; (try dsimp only at hSw); go_simp; first | done | with_reducible rfl)
                    (try simp only [Act.put, List.setIfInBounds_toArray, List.set_cons_zero, List.set_cons_succ])
                    refine takeX_ (i := 14) (d := some 146) (v := ?v4s14) rfl rfl (by kernel_rfl) (by kernel_rfl) (by kernel_rfl) (fun _ _ _ h => h) (Or.inl ⟨by rfl, ?hy4s14⟩) (by assumption) ?rest4s14
                    case hy4s14 => (intro w hSw; (try dsimp only at hSw); go_simp; first | done | with_reducible rfl)
                    (try simp only [Act.put, List.setIfInBounds_toArray, List.set_cons_zero, List.set_cons_succ])
                    refine takeX_ (i := 15) (d := some 147) (v := ?v4s15) rfl rfl (by kernel_rfl) (by kernel_rfl) (by kernel_rfl) (fun _ _ _ h => h) (Or.inl ⟨by rfl, ?hy4s15⟩) (by assumption) ?rest4s15
                    case hy4s15 => (intro w hSw; (try dsimp only at hSw); go_simp; first | done | with_reducible rfl)
                    (try simp only [Act.put, List.setIfInBounds_toArray, List.set_cons_zero, List.set_cons_succ])
                    refine takeX_ (i := 16) (d := some 148) (v := undef) rfl rfl (by kernel_rfl) (by kernel_rfl) (by kernel_rfl) (fun _ _ _ h => h) (Or.inr ⟨by rfl, rfl⟩) (by assumption) ?_
                    (try simp only [Act.put, List.setIfInBounds_toArray, List.set_cons_zero, List.set_cons_succ])
                    refine takeX_ (i := 17) (d := some 149) (v := undef) rfl rfl (by kernel_rfl) (by kernel_rfl) (by kernel_rfl) (fun _ _ _ h => h) (Or.inr ⟨by rfl, rfl⟩) (by assumption) ?_
                    (try simp only [Act.put, List.setIfInBounds_toArray, List.set_cons_zero, List.set_cons_succ])
                    refine takeX_ (i := 18) (d := some 150) (v := ?v4s18) rfl rfl (by kernel_rfl) (by kernel_rfl) (by kernel_rfl) (fun _ _ _ h => h) (Or.inl ⟨by rfl, ?hy4s18⟩) (by assumption) ?rest4s18
                    case hy4s18 => (intro w hSw; (try dsimp only at hSw); go_simp; first | done | with_reducible rfl)
                    (try simp only [Act.put, List.setIfInBounds_toArray, List.set_cons_zero, List.set_cons_succ])
                    refine takeX_ (i := 19) (d := some 151) (v := ?v4s19) rfl rfl (by kernel_rfl) (by kernel_rfl) (by kernel_rfl) (fun _ _ _ h => h) (Or.inl ⟨by rfl, ?hy4s19⟩) (by assumption) ?rest4s19
                    case hy4s19 => (intro w hSw; (try dsimp only at hSw); go_simp; first | done | with_reducible rfl)
                    (try simp only [Act.put, List.setIfInBounds_toArray, List.set_cons_zero, List.set_cons_succ])
                    refine takeX_ (i := 20) (d := some 152) (v := ?v4s20) rfl rfl (by kernel_rfl) (by kernel_rfl) (by kernel_rfl) (fun _ _ _ h => h) (Or.inl ⟨by rfl, ?hy4s20⟩) (by assumption) ?rest4s20
                    case hy4s20 => (intro w hSw; (try dsimp only at hSw); go_simp; first | done | with_reducible rfl)
                    (try simp only [Act.put, List.setIfInBounds_toArray, List.set_cons_zero, List.set_cons_succ])
                    refine takeX_ (i := 21) (d := some 153) (v := ?v4s21) rfl rfl (by kernel_rfl) (by kernel_rfl) (by kernel_rfl) (fun _ _ _ h => h) (Or.inl ⟨by rfl, ?hy4s21⟩) (by assumption) ?rest4s21
                    case hy4s21 => (intro w hSw; (try dsimp only at hSw); go_simp; first | done | with_reducible rfl)
                    (try simp only [Act.put, List.setIfInBounds_toArray, List.set_cons_zero, List.set_cons_succ])
                    refine takeX_ (i := 23) (d := some 155) (v := ?v4s23) rfl rfl (by kernel_rfl) (by kernel_rfl) (by kernel_rfl) (fun _ _ _ h => h) (Or.inl ⟨by rfl, ?hy4s23⟩) (by assumption) ?rest4s23
                    case hy4s23 => (intro w hSw; (try dsimp only at hSw); go_simp; first | done | with_reducible rfl)
                    (try simp only [Act.put, List.setIfInBounds_toArray, List.set_cons_zero, List.set_cons_succ])
                    refine takeX_ (i := 24) (d := some 156) (v := ?v4s24) rfl rfl (by kernel_rfl) (by kernel_rfl) (by kernel_rfl) (fun _ _ _ h => h) (Or.inl ⟨by rfl, ?hy4s24⟩) (by assumption) ?rest4s24
                    case hy4s24 => (intro w hSw; (try dsimp only at hSw); go_simp; first | done | with_reducible rfl)
                    (try simp only [Act.put, List.setIfInBounds_toArray, List.set_cons_zero, List.set_cons_succ])
                    refine wpAnyH_ready (rs := [22]) (by kernel_rfl) (by simp) ?_
                    refine AllReadyH.cons rfl (fun KK hKK => ?_) AllReadyH.nil
                    go_simp
                    (go_at_call 74; with_reducible refine (IsSymmetricShape_i A nS c s _ HnS.out hnl (RS.out.below (by go_grown))).mono ?_; rintro e y1 ⟨rfl, hy1⟩; rw [Hsym.out]; replace P := P.bel (bl_trans (by go_grown) hy1); have Pc := P.c1; replace R3 := Lib.hid (R3.out.below (bl_trans (by go_grown) hy1)); replace RS := Lib.hid (RS.out.below (bl_trans (by go_grown) hy1)); replace HB := Lib.hid (bl_trans HB.out (bl_trans (by go_grown) hy1)); clear hy1)
                    refine hKK.out _ _ ?_ (fun hHeld => ?_)
                    · (try dsimp only); go_keep
                    clear hKK KK
                    (try simp only [Act.put, List.setIfInBounds_toArray, List.set_cons_zero, List.set_cons_succ])
                    refine takeX_ (i := 25) (d := some 157) (v := ?v4s25) rfl rfl (by kernel_rfl) (by kernel_rfl) (by kernel_rfl) (fun _ _ _ h => h) (Or.inl ⟨by rfl, ?hy4s25⟩) (by assumption) ?rest4s25
                    case hy4s25 => (intro w hSw; (try dsimp only at hSw); go_simp; first | done | with_reducible rfl)
                    (try simp only [Act.put, List.setIfInBounds_toArray, List.set_cons_zero, List.set_cons_succ])
                    refine takeX_ (i := 26) (d := some 158) (v := ?v4s26) rfl rfl (by kernel_rfl) (by kernel_rfl) (by kernel_rfl) (fun _ _ _ h => h) (Or.inl ⟨by rfl, ?hy4s26⟩) (by assumption) ?rest4s26
                    case hy4s26 => (intro w hSw; (try dsimp only at hSw); go_simp; first | done | with_reducible rfl)
                    (try simp only [Act.put, List.setIfInBounds_toArray, List.set_cons_zero, List.set_cons_succ])
                    refine takeX_ (i := 27) (d := some 159) (v := ?v4s27) rfl rfl (by kernel_rfl) (by kernel_rfl) (by kernel_rfl) (fun _ _ _ h => h) (Or.inl ⟨by rfl, ?hy4s27⟩) (by assumption) ?rest4s27
                    case hy4s27 => (intro w hSw; (try dsimp only at hSw); go_simp; first | done | with_reducible rfl)
                    (try simp only [Act.put, List.setIfInBounds_toArray, List.set_cons_zero, List.set_cons_succ])
                    refine takeX_ (i := 28) (d := some 160) (v := ?v4s28) rfl rfl (by kernel_rfl) (by kernel_rfl) (by kernel_rfl) (fun _ _ _ h => h) (Or.inl ⟨by rfl, ?hy4s28⟩) (by assumption) ?rest4s28
                    case hy4s28 => (intro w hSw; (try dsimp only at hSw); go_simp; first | done | with_reducible rfl)
                    (try simp only [Act.put, List.setIfInBounds_toArray, List.set_cons_zero, List.set_cons_succ])
                    refine wpAnyH_ready (rs := [29]) (by kernel_rfl) (by simp) ?_
                    refine AllReadyH.cons rfl (fun KK hKK => ?_) AllReadyH.nil
                    go_simp
                    (go_at_call 75; with_reducible refine (CountCells_s A6 c6 rs _ hl6 (R3.out.below (by go_grown))).mono ?_; rintro e y2 ⟨rfl, hy2⟩; rw [HM.out]; replace P := P.bel (bl_trans (by go_grown) hy2); have Pc := P.c1; replace R3 := Lib.hid (R3.out.below (bl_trans (by go_grown) hy2)); replace RS := Lib.hid (RS.out.below (bl_trans (by go_grown) hy2)); replace HB := Lib.hid (bl_trans HB.out (bl_trans (by go_grown) hy2)); clear hy2)
                    refine hKK.out _ _ ?_ (fun hHeld => ?_)
                    · (try dsimp only); go_keep
                    clear hKK KK
                    (try simp only [Act.put, List.setIfInBounds_toArray, List.set_cons_zero, List.set_cons_succ])
                    refine takeX_ (i := 30) (d := some 162) (v := ?v4s30) rfl rfl (by kernel_rfl) (by kernel_rfl) (by kernel_rfl) (fun _ _ _ h => h) (Or.inl ⟨by rfl, ?hy4s30⟩) (by assumption) ?rest4s30
                    case hy4s30 => (intro w hSw; (try dsimp only at hSw); go_simp; first | done | with_reducible rfl)
                    (try simp only [Act.put, List.setIfInBounds_toArray, List.set_cons_zero, List.set_cons_succ])
                    refine takeX_ (i := 31) (d := some 163) (v := ?v4s31) rfl rfl (by kernel_rfl) (by kernel_rfl) (by kernel_rfl) (fun _ _ _ h => h) (Or.inl ⟨by rfl, ?hy4s31⟩) (by assumption) ?rest4s31
                    case hy4s31 => (intro w hSw; (try dsimp only at hSw); go_simp; first | done | with_reducible rfl)
                    (try simp only [Act.put, List.setIfInBounds_toArray, List.set_cons_zero, List.set_cons_succ])
                    refine takeX_ (i := 32) (d := some 164) (v := ?v4s32) rfl rfl (by kernel_rfl) (by kernel_rfl) (by kernel_rfl) (fun _ _ _ h => h) (Or.inl ⟨by rfl, ?hy4s32⟩) (by assumption) ?rest4s32
                    case hy4s32 => (intro w hSw; (try dsimp only at hSw); go_simp; first | done | with_reducible rfl)
                    (try simp only [Act.put, List.setIfInBounds_toArray, List.set_cons_zero, List.set_cons_succ])
                    refine takeX_ (i := 33) (d := some 165) (v := ?v4s33) rfl rfl (by kernel_rfl) (by kernel_rfl) (by kernel_rfl) (fun _ _ _ h => h) (Or.inl ⟨by rfl, ?hy4s33⟩) (by assumption) ?rest4s33
                    case hy4s33 => (intro w hSw; (try dsimp only at hSw); go_simp; first | done | with_reducible rfl)
                    (try simp only [Act.put, List.setIfInBounds_toArray, List.set_cons_zero, List.set_cons_succ])
                    refine takeX_ (i := 34) (d := some 166) (v := ?v4s34) rfl rfl (by kernel_rfl) (by kernel_rfl) (by kernel_rfl) (fun _ _ _ h => h) (Or.inl ⟨by rfl, ?hy4s34⟩) (by assumption) ?rest4s34
                    case hy4s34 => (intro w hSw; (try dsimp only at hSw); go_simp; first | done | with_reducible rfl)
                    (try simp only [Act.put, List.setIfInBounds_toArray, List.set_cons_zero, List.set_cons_succ])
                    refine takeX_ (i := 37) (d := some 169) (v := ?v4s37) rfl rfl (by kernel_rfl) (by kernel_rfl) (by kernel_rfl) (fun _ _ _ h => h) (Or.inl ⟨by rfl, ?hy4s37⟩) (by assumption) ?rest4s37
                    case hy4s37 => (intro w hSw; (try dsimp only at hSw); go_simp; first | done | with_reducible rfl)
                    (try simp only [Act.put, List.setIfInBounds_toArray, List.set_cons_zero, List.set_cons_succ])
                    refine wpAnyH_ready (rs := [35]) (by kernel_rfl) (by simp) ?_
                    refine AllReadyH.cons rfl (fun KK hKK => ?_) AllReadyH.nil
                    go_simp
                    have RDOM := Lib.hid (show RdC (y2.alloc (.cells #[.int .i64 0, .int .i64 0, .int .i64 1, .int .i64 0] 35)) (some ⟨y2.heap.size, 0, none⟩) domS from OwC.rd (Blk.ownC' (B := 0) (cap := 2) (l := domS) (rest := []) (show Blk (y2.alloc (.cells #[.int .i64 0, .int .i64 0, .int .i64 1, .int .i64 0] 35)) y2.heap.size 35 (domS.flatMap cC ++ []) from Blk.new y2 35 [.int .i64 0, .int .i64 0, .int .i64 1, .int .i64 0]) (Nat.zero_le _) (by decide) (by decide) (by decide) (fun x hx => by simp [domS] at hx; rcases hx with rfl | rfl <;> exact ⟨⟨by decide, by decide⟩, by decide, by decide⟩)))
                    refine hKK.out _ _ ?_ (fun hHeld => ?_)
                    · (try dsimp only); go_keep
                    clear hKK KK
                    (try simp only [Act.put, List.setIfInBounds_toArray, List.set_cons_zero, List.set_cons_succ])
                    refine wpAnyH_ready (rs := [36]) (by kernel_rfl) (by simp) ?_
                    refine AllReadyH.cons rfl (fun KK hKK => ?_) AllReadyH.nil
                    go_simp
                    (go_at_call 76; with_reducible refine (CountShape_i A6 c6 rs _ 2 2 domS _ hl6 (R3.out.below (by go_grown)) rfl (by decide) RDOM.out).mono ?_; rintro e y3 ⟨rfl, hy3⟩; rw [Hcs.out]; replace P := P.bel (bl_trans (by go_grown) hy3); have Pc := P.c1; replace R3 := Lib.hid (R3.out.below (bl_trans (by go_grown) hy3)); replace RS := Lib.hid (RS.out.below (bl_trans (by go_grown) hy3)); replace HB := Lib.hid (bl_trans HB.out (bl_trans (by go_grown) hy3)); clear hy3)
                    refine hKK.out _ _ ?_ (fun hHeld => ?_)
                    · (try dsimp only); go_keep
                    clear hKK KK
                    (try simp only [Act.put, List.setIfInBounds_toArray, List.set_cons_zero, List.set_cons_succ])
                    refine wpAnyH_ready (rs := [38]) (by kernel_rfl) (by simp) ?_
                    refine AllReadyH.cons rfl (fun KK hKK => ?_) AllReadyH.nil
                    go_simp
                    (go_at_call 77; with_reducible refine (CountTilings_s A6 c6 rs _ hl6 (R3.out.below (by go_grown))).mono ?_; rintro e y4 ⟨rfl, hy4⟩; rw [Hct.out]; replace P := P.bel (bl_trans (by go_grown) hy4); have Pc := P.c1; replace R3 := Lib.hid (R3.out.below (bl_trans (by go_grown) hy4)); replace RS := Lib.hid (RS.out.below (bl_trans (by go_grown) hy4)); replace HB := Lib.hid (bl_trans HB.out (bl_trans (by go_grown) hy4)); clear hy4)
                    refine hKK.out _ _ ?_ (fun hHeld => ?_)
                    · (try dsimp only); go_keep
                    clear hKK KK
                    (try simp only [Act.put, List.setIfInBounds_toArray, List.set_cons_zero, List.set_cons_succ])
                    refine takeX_ (i := 39) (d := some 171) (v := ?v4s39) rfl rfl (by kernel_rfl) (by kernel_rfl) (by kernel_rfl) (fun _ _ _ h => h) (Or.inl ⟨by rfl, ?hy4s39⟩) (by assumption) ?rest4s39
                    case hy4s39 => (intro w hSw; (try dsimp only at hSw); go_simp; first | done | with_reducible rfl)
                    (try simp only [Act.put, List.setIfInBounds_toArray, List.set_cons_zero, List.set_cons_succ])
                    refine takeX_ (i := 40) (d := some 172) (v := ?v4s40) rfl rfl (by kernel_rfl) (by kernel_rfl) (by kernel_rfl) (fun _ _ _ h => h) (Or.inl ⟨by rfl, ?hy4s40⟩) (by assumption) ?rest4s40
                    case hy4s40 => (intro w hSw; (try dsimp only at hSw); go_simp; first | done | with_reducible rfl)
                    (try simp only [Act.put, List.setIfInBounds_toArray, List.set_cons_zero, List.set_cons_succ])
                    refine takeX_ (i := 41) (d := some 173) (v := ?v4s41) rfl rfl (by kernel_rfl) (by kernel_rfl) (by kernel_rfl) (fun _ _ _ h => h) (Or.inl ⟨by rfl, ?hy4s41⟩) (by assumption) ?rest4s41
                    case hy4s41 => (intro w hSw; (try dsimp only at hSw); go_simp; first | done | with_reducible rfl)
                    (try simp only [Act.put, List.setIfInBounds_toArray, List.set_cons_zero, List.set_cons_succ])
                    refine takeX_ (i := 42) (d := some 2) (v := ?v4s42) rfl rfl (by kernel_rfl) (by kernel_rfl) (by kernel_rfl) (fun _ _ _ h => h) (Or.inl ⟨by rfl, ?hy4s42⟩) (by assumption) ?rest4s42
                    case hy4s42 => (intro w hSw; (try dsimp only at hSw); go_simp; first | done | with_reducible rfl)
                    (try simp only [Act.put, List.setIfInBounds_toArray, List.set_cons_zero, List.set_cons_succ])
                    refine wpAnyH_done (by kernel_rfl) ?_ _
                    all_goals (go_wp2_with fail; go_ret; exact ⟨rfl, HB.out⟩)
                  · rw [show (T.length : Int) = 8 by omega]
                    have Hsym := Lib.hid (show symR s = false by rw [Hsym0.out, hn]; rfl)
                    clear hn Hlen Hsym0
                    refine wp_region_held_drew (S := (fun w' : World => w'.cell? ⟨gr, 0, none⟩ = some (.slice A6 rs.length c6))) (by kernel_rfl) ?_ (fun hHeld => ?_)
                    · (try dsimp only); go_keep
                    refine takeX_ (i := 0) (d := some 132) (v := ?v8s0) rfl rfl (by kernel_rfl) (by kernel_rfl) (by kernel_rfl) (fun _ _ _ h => h) (Or.inl ⟨by rfl, ?hy8s0⟩) (by assumption) ?rest8s0
                    case hy8s0 => (intro w hSw; (try dsimp only at hSw); go_simp; first | done | with_reducible rfl)
                    (try simp only [Act.put, List.setIfInBounds_toArray, List.set_cons_zero, List.set_cons_succ])
                    refine takeX_ (i := 1) (d := some 133) (v := ?v8s1) rfl rfl (by kernel_rfl) (by kernel_rfl) (by kernel_rfl) (fun _ _ _ h => h) (Or.inl ⟨by rfl, ?hy8s1⟩) (by assumption) ?rest8s1
                    case hy8s1 => (intro w hSw; (try dsimp only at hSw); go_simp; first | done | with_reducible rfl)
                    (try simp only [Act.put, List.setIfInBounds_toArray, List.set_cons_zero, List.set_cons_succ])
                    refine takeX_ (i := 2) (d := some 134) (v := ?v8s2) rfl rfl (by kernel_rfl) (by kernel_rfl) (by kernel_rfl) (fun _ _ _ h => h) (Or.inl ⟨by rfl, ?hy8s2⟩) (by assumption) ?rest8s2
                    case hy8s2 => (intro w hSw; (try dsimp only at hSw); go_simp; first | done | with_reducible rfl)
                    (try simp only [Act.put, List.setIfInBounds_toArray, List.set_cons_zero, List.set_cons_succ])
                    refine takeX_ (i := 3) (d := some 135) (v := ?v8s3) rfl rfl (by kernel_rfl) (by kernel_rfl) (by kernel_rfl) (fun _ _ _ h => h) (Or.inl ⟨by rfl, ?hy8s3⟩) (by assumption) ?rest8s3
                    case hy8s3 => (intro w hSw; (try dsimp only at hSw); go_simp; first | done | with_reducible rfl)
                    (try simp only [Act.put, List.setIfInBounds_toArray, List.set_cons_zero, List.set_cons_succ])
                    refine takeX_ (i := 4) (d := some 136) (v := ?v8s4) rfl rfl (by kernel_rfl) (by kernel_rfl) (by kernel_rfl) (fun _ _ _ h => h) (Or.inl ⟨by rfl, ?hy8s4⟩) (by assumption) ?rest8s4
                    case hy8s4 => (intro w hSw; (try dsimp only at hSw); go_simp; first | done | with_reducible rfl)
                    (try simp only [Act.put, List.setIfInBounds_toArray, List.set_cons_zero, List.set_cons_succ])
                    refine takeX_ (i := 5) (d := some 137) (v := ?v8s5) rfl rfl (by kernel_rfl) (by kernel_rfl) (by kernel_rfl) (fun _ _ _ h => h) (Or.inl ⟨by rfl, ?hy8s5⟩) (by assumption) ?rest8s5
                    case hy8s5 => (intro w hSw; (try dsimp only at hSw); go_simp; first | done | with_reducible rfl)
                    (try simp only [Act.put, List.setIfInBounds_toArray, List.set_cons_zero, List.set_cons_succ])
                    refine takeX_ (i := 6) (d := some 138) (v := ?v8s6) rfl rfl (by kernel_rfl) (by kernel_rfl) (by kernel_rfl) (fun _ _ _ h => h) (Or.inl ⟨by rfl, ?hy8s6⟩) (by assumption) ?rest8s6
                    case hy8s6 => (intro w hSw; (try dsimp only at hSw); go_simp; first | done | with_reducible rfl)
                    (try simp only [Act.put, List.setIfInBounds_toArray, List.set_cons_zero, List.set_cons_succ])
                    refine takeX_ (i := 7) (d := some 139) (v := ?v8s7) rfl rfl (by kernel_rfl) (by kernel_rfl) (by kernel_rfl) (fun _ _ _ h => h) (Or.inl ⟨by rfl, ?hy8s7⟩) (by assumption) ?rest8s7
                    case hy8s7 => (intro w hSw; (try dsimp only at hSw); go_simp; first | done | with_reducible rfl)
                    (try simp only [Act.put, List.setIfInBounds_toArray, List.set_cons_zero, List.set_cons_succ])
                    refine takeX_ (i := 8) (d := some 140) (v := ?v8s8) rfl rfl (by kernel_rfl) (by kernel_rfl) (by kernel_rfl) (fun _ _ _ h => h) (Or.inl ⟨by rfl, ?hy8s8⟩) (by assumption) ?rest8s8
                    case hy8s8 => (intro w hSw; (try dsimp only at hSw); go_simp; first | done | with_reducible rfl)
                    (try simp only [Act.put, List.setIfInBounds_toArray, List.set_cons_zero, List.set_cons_succ])
                    refine takeX_ (i := 9) (d := some 141) (v := ?v8s9) rfl rfl (by kernel_rfl) (by kernel_rfl) (by kernel_rfl) (fun _ _ _ h => h) (Or.inl ⟨by rfl, ?hy8s9⟩) (by assumption) ?rest8s9
                    case hy8s9 => (intro w hSw; (try dsimp only at hSw); go_simp; first | done | with_reducible rfl)
                    (try simp only [Act.put, List.setIfInBounds_toArray, List.set_cons_zero, List.set_cons_succ])
                    refine takeX_ (i := 10) (d := some 142) (v := ?v8s10) rfl rfl (by kernel_rfl) (by kernel_rfl) (by kernel_rfl) (fun _ _ _ h => h) (Or.inl ⟨by rfl, ?hy8s10⟩) (by assumption) ?rest8s10
                    case hy8s10 => (intro w hSw; (try dsimp only at hSw); go_simp; first | done | with_reducible rfl)
                    (try simp only [Act.put, List.setIfInBounds_toArray, List.set_cons_zero, List.set_cons_succ])
                    refine takeX_ (i := 11) (d := some 143) (v := ?v8s11) rfl rfl (by kernel_rfl) (by kernel_rfl) (by kernel_rfl) (fun _ _ _ h => h) (Or.inl ⟨by rfl, ?hy8s11⟩) (by assumption) ?rest8s11
                    case hy8s11 => (intro w hSw; (try dsimp only at hSw); go_simp; first | done | with_reducible rfl)
                    (try simp only [Act.put, List.setIfInBounds_toArray, List.set_cons_zero, List.set_cons_succ])
                    refine takeX_ (i := 12) (d := some 144) (v := ?v8s12) rfl rfl (by kernel_rfl) (by kernel_rfl) (by kernel_rfl) (fun _ _ _ h => h) (Or.inl ⟨by rfl, ?hy8s12⟩) (by assumption) ?rest8s12
                    case hy8s12 => (intro w hSw; (try dsimp only at hSw); go_simp; first | done | with_reducible rfl)
                    (try simp only [Act.put, List.setIfInBounds_toArray, List.set_cons_zero, List.set_cons_succ])
                    refine takeX_ (i := 13) (d := some 145) (v := ?v8s13) rfl rfl (by kernel_rfl) (by kernel_rfl) (by kernel_rfl) (fun _ _ _ h => h) (Or.inl ⟨by rfl, ?hy8s13⟩) (by assumption) ?rest8s13
                    case hy8s13 => (intro w hSw; (try dsimp only at hSw); go_simp; first | done | with_reducible rfl)
                    (try simp only [Act.put, List.setIfInBounds_toArray, List.set_cons_zero, List.set_cons_succ])
                    refine takeX_ (i := 14) (d := some 146) (v := ?v8s14) rfl rfl (by kernel_rfl) (by kernel_rfl) (by kernel_rfl) (fun _ _ _ h => h) (Or.inl ⟨by rfl, ?hy8s14⟩) (by assumption) ?rest8s14
                    case hy8s14 => (intro w hSw; (try dsimp only at hSw); go_simp; first | done | with_reducible rfl)
                    (try simp only [Act.put, List.setIfInBounds_toArray, List.set_cons_zero, List.set_cons_succ])
                    refine takeX_ (i := 15) (d := some 147) (v := ?v8s15) rfl rfl (by kernel_rfl) (by kernel_rfl) (by kernel_rfl) (fun _ _ _ h => h) (Or.inl ⟨by rfl, ?hy8s15⟩) (by assumption) ?rest8s15
                    case hy8s15 => (intro w hSw; (try dsimp only at hSw); go_simp; first | done | with_reducible rfl)
                    (try simp only [Act.put, List.setIfInBounds_toArray, List.set_cons_zero, List.set_cons_succ])
                    refine takeX_ (i := 16) (d := some 148) (v := ?v8s16) rfl rfl (by kernel_rfl) (by kernel_rfl) (by kernel_rfl) (fun _ _ _ h => h) (Or.inl ⟨by rfl, ?hy8s16⟩) (by assumption) ?rest8s16
                    case hy8s16 => (intro w hSw; (try dsimp only at hSw); go_simp; first | done | with_reducible rfl)
                    (try simp only [Act.put, List.setIfInBounds_toArray, List.set_cons_zero, List.set_cons_succ])
                    refine takeX_ (i := 17) (d := some 149) (v := ?v8s17) rfl rfl (by kernel_rfl) (by kernel_rfl) (by kernel_rfl) (fun _ _ _ h => h) (Or.inl ⟨by rfl, ?hy8s17⟩) (by assumption) ?rest8s17
                    case hy8s17 => (intro w hSw; (try dsimp only at hSw); go_simp; first | done | with_reducible rfl)
                    (try simp only [Act.put, List.setIfInBounds_toArray, List.set_cons_zero, List.set_cons_succ])
                    refine takeX_ (i := 18) (d := some 150) (v := ?v8s18) rfl rfl (by kernel_rfl) (by kernel_rfl) (by kernel_rfl) (fun _ _ _ h => h) (Or.inl ⟨by rfl, ?hy8s18⟩) (by assumption) ?rest8s18
                    case hy8s18 => (intro w hSw; (try dsimp only at hSw); go_simp; first | done | with_reducible rfl)
                    (try simp only [Act.put, List.setIfInBounds_toArray, List.set_cons_zero, List.set_cons_succ])
                    refine takeX_ (i := 19) (d := some 151) (v := ?v8s19) rfl rfl (by kernel_rfl) (by kernel_rfl) (by kernel_rfl) (fun _ _ _ h => h) (Or.inl ⟨by rfl, ?hy8s19⟩) (by assumption) ?rest8s19
                    case hy8s19 => (intro w hSw; (try dsimp only at hSw); go_simp; first | done | with_reducible rfl)
                    (try simp only [Act.put, List.setIfInBounds_toArray, List.set_cons_zero, List.set_cons_succ])
                    refine takeX_ (i := 20) (d := some 152) (v := ?v8s20) rfl rfl (by kernel_rfl) (by kernel_rfl) (by kernel_rfl) (fun _ _ _ h => h) (Or.inl ⟨by rfl, ?hy8s20⟩) (by assumption) ?rest8s20
                    case hy8s20 => (intro w hSw; (try dsimp only at hSw); go_simp; first | done | with_reducible rfl)
                    (try simp only [Act.put, List.setIfInBounds_toArray, List.set_cons_zero, List.set_cons_succ])
                    refine takeX_ (i := 21) (d := some 153) (v := ?v8s21) rfl rfl (by kernel_rfl) (by kernel_rfl) (by kernel_rfl) (fun _ _ _ h => h) (Or.inl ⟨by rfl, ?hy8s21⟩) (by assumption) ?rest8s21
                    case hy8s21 => (intro w hSw; (try dsimp only at hSw); go_simp; first | done | with_reducible rfl)
                    (try simp only [Act.put, List.setIfInBounds_toArray, List.set_cons_zero, List.set_cons_succ])
                    refine takeX_ (i := 23) (d := some 155) (v := ?v8s23) rfl rfl (by kernel_rfl) (by kernel_rfl) (by kernel_rfl) (fun _ _ _ h => h) (Or.inl ⟨by rfl, ?hy8s23⟩) (by assumption) ?rest8s23
                    case hy8s23 => (intro w hSw; (try dsimp only at hSw); go_simp; first | done | with_reducible rfl)
                    (try simp only [Act.put, List.setIfInBounds_toArray, List.set_cons_zero, List.set_cons_succ])
                    refine takeX_ (i := 24) (d := some 156) (v := ?v8s24) rfl rfl (by kernel_rfl) (by kernel_rfl) (by kernel_rfl) (fun _ _ _ h => h) (Or.inl ⟨by rfl, ?hy8s24⟩) (by assumption) ?rest8s24
                    case hy8s24 => (intro w hSw; (try dsimp only at hSw); go_simp; first | done | with_reducible rfl)
                    (try simp only [Act.put, List.setIfInBounds_toArray, List.set_cons_zero, List.set_cons_succ])
                    refine wpAnyH_ready (rs := [22]) (by kernel_rfl) (by simp) ?_
                    refine AllReadyH.cons rfl (fun KK hKK => ?_) AllReadyH.nil
                    go_simp
                    (go_at_call 74; with_reducible refine (IsSymmetricShape_i A nS c s _ HnS.out hnl (RS.out.below (by go_grown))).mono ?_; rintro e y1 ⟨rfl, hy1⟩; rw [Hsym.out]; replace P := P.bel (bl_trans (by go_grown) hy1); have Pc := P.c1; replace R3 := Lib.hid (R3.out.below (bl_trans (by go_grown) hy1)); replace RS := Lib.hid (RS.out.below (bl_trans (by go_grown) hy1)); replace HB := Lib.hid (bl_trans HB.out (bl_trans (by go_grown) hy1)); clear hy1)
                    refine hKK.out _ _ ?_ (fun hHeld => ?_)
                    · (try dsimp only); go_keep
                    clear hKK KK
                    (try simp only [Act.put, List.setIfInBounds_toArray, List.set_cons_zero, List.set_cons_succ])
                    refine takeX_ (i := 25) (d := some 157) (v := ?v8s25) rfl rfl (by kernel_rfl) (by kernel_rfl) (by kernel_rfl) (fun _ _ _ h => h) (Or.inl ⟨by rfl, ?hy8s25⟩) (by assumption) ?rest8s25
                    case hy8s25 => (intro w hSw; (try dsimp only at hSw); go_simp; first | done | with_reducible rfl)
                    (try simp only [Act.put, List.setIfInBounds_toArray, List.set_cons_zero, List.set_cons_succ])
                    refine takeX_ (i := 26) (d := some 158) (v := ?v8s26) rfl rfl (by kernel_rfl) (by kernel_rfl) (by kernel_rfl) (fun _ _ _ h => h) (Or.inl ⟨by rfl, ?hy8s26⟩) (by assumption) ?rest8s26
                    case hy8s26 => (intro w hSw; (try dsimp only at hSw); go_simp; first | done | with_reducible rfl)
                    (try simp only [Act.put, List.setIfInBounds_toArray, List.set_cons_zero, List.set_cons_succ])
                    refine takeX_ (i := 27) (d := some 159) (v := ?v8s27) rfl rfl (by kernel_rfl) (by kernel_rfl) (by kernel_rfl) (fun _ _ _ h => h) (Or.inl ⟨by rfl, ?hy8s27⟩) (by assumption) ?rest8s27
                    case hy8s27 => (intro w hSw; (try dsimp only at hSw); go_simp; first | done | with_reducible rfl)
                    (try simp only [Act.put, List.setIfInBounds_toArray, List.set_cons_zero, List.set_cons_succ])
                    refine takeX_ (i := 28) (d := some 160) (v := ?v8s28) rfl rfl (by kernel_rfl) (by kernel_rfl) (by kernel_rfl) (fun _ _ _ h => h) (Or.inl ⟨by rfl, ?hy8s28⟩) (by assumption) ?rest8s28
                    case hy8s28 => (intro w hSw; (try dsimp only at hSw); go_simp; first | done | with_reducible rfl)
                    (try simp only [Act.put, List.setIfInBounds_toArray, List.set_cons_zero, List.set_cons_succ])
                    refine wpAnyH_ready (rs := [29]) (by kernel_rfl) (by simp) ?_
                    refine AllReadyH.cons rfl (fun KK hKK => ?_) AllReadyH.nil
                    go_simp
                    (go_at_call 75; with_reducible refine (CountCells_s A6 c6 rs _ hl6 (R3.out.below (by go_grown))).mono ?_; rintro e y2 ⟨rfl, hy2⟩; rw [HM.out]; replace P := P.bel (bl_trans (by go_grown) hy2); have Pc := P.c1; replace R3 := Lib.hid (R3.out.below (bl_trans (by go_grown) hy2)); replace RS := Lib.hid (RS.out.below (bl_trans (by go_grown) hy2)); replace HB := Lib.hid (bl_trans HB.out (bl_trans (by go_grown) hy2)); clear hy2)
                    refine hKK.out _ _ ?_ (fun hHeld => ?_)
                    · (try dsimp only); go_keep
                    clear hKK KK
                    (try simp only [Act.put, List.setIfInBounds_toArray, List.set_cons_zero, List.set_cons_succ])
                    refine takeX_ (i := 30) (d := some 162) (v := ?v8s30) rfl rfl (by kernel_rfl) (by kernel_rfl) (by kernel_rfl) (fun _ _ _ h => h) (Or.inl ⟨by rfl, ?hy8s30⟩) (by assumption) ?rest8s30
                    case hy8s30 => (intro w hSw; (try dsimp only at hSw); go_simp; first | done | with_reducible rfl)
                    (try simp only [Act.put, List.setIfInBounds_toArray, List.set_cons_zero, List.set_cons_succ])
                    refine takeX_ (i := 31) (d := some 163) (v := ?v8s31) rfl rfl (by kernel_rfl) (by kernel_rfl) (by kernel_rfl) (fun _ _ _ h => h) (Or.inl ⟨by rfl, ?hy8s31⟩) (by assumption) ?rest8s31
                    case hy8s31 => (intro w hSw; (try dsimp only at hSw); go_simp; first | done | with_reducible rfl)
                    (try simp only [Act.put, List.setIfInBounds_toArray, List.set_cons_zero, List.set_cons_succ])
                    refine takeX_ (i := 32) (d := some 164) (v := ?v8s32) rfl rfl (by kernel_rfl) (by kernel_rfl) (by kernel_rfl) (fun _ _ _ h => h) (Or.inl ⟨by rfl, ?hy8s32⟩) (by assumption) ?rest8s32
                    case hy8s32 => (intro w hSw; (try dsimp only at hSw); go_simp; first | done | with_reducible rfl)
                    (try simp only [Act.put, List.setIfInBounds_toArray, List.set_cons_zero, List.set_cons_succ])
                    refine takeX_ (i := 33) (d := some 165) (v := ?v8s33) rfl rfl (by kernel_rfl) (by kernel_rfl) (by kernel_rfl) (fun _ _ _ h => h) (Or.inl ⟨by rfl, ?hy8s33⟩) (by assumption) ?rest8s33
                    case hy8s33 => (intro w hSw; (try dsimp only at hSw); go_simp; first | done | with_reducible rfl)
                    (try simp only [Act.put, List.setIfInBounds_toArray, List.set_cons_zero, List.set_cons_succ])
                    refine takeX_ (i := 34) (d := some 166) (v := ?v8s34) rfl rfl (by kernel_rfl) (by kernel_rfl) (by kernel_rfl) (fun _ _ _ h => h) (Or.inl ⟨by rfl, ?hy8s34⟩) (by assumption) ?rest8s34
                    case hy8s34 => (intro w hSw; (try dsimp only at hSw); go_simp; first | done | with_reducible rfl)
                    (try simp only [Act.put, List.setIfInBounds_toArray, List.set_cons_zero, List.set_cons_succ])
                    refine takeX_ (i := 37) (d := some 169) (v := ?v8s37) rfl rfl (by kernel_rfl) (by kernel_rfl) (by kernel_rfl) (fun _ _ _ h => h) (Or.inl ⟨by rfl, ?hy8s37⟩) (by assumption) ?rest8s37
                    case hy8s37 => (intro w hSw; (try dsimp only at hSw); go_simp; first | done | with_reducible rfl)
                    (try simp only [Act.put, List.setIfInBounds_toArray, List.set_cons_zero, List.set_cons_succ])
                    refine wpAnyH_ready (rs := [35]) (by kernel_rfl) (by simp) ?_
                    refine AllReadyH.cons rfl (fun KK hKK => ?_) AllReadyH.nil
                    go_simp
                    have RDOM := Lib.hid (show RdC (y2.alloc (.cells #[.int .i64 0, .int .i64 0, .int .i64 1, .int .i64 0] 35)) (some ⟨y2.heap.size, 0, none⟩) domS from OwC.rd (Blk.ownC' (B := 0) (cap := 2) (l := domS) (rest := []) (show Blk (y2.alloc (.cells #[.int .i64 0, .int .i64 0, .int .i64 1, .int .i64 0] 35)) y2.heap.size 35 (domS.flatMap cC ++ []) from Blk.new y2 35 [.int .i64 0, .int .i64 0, .int .i64 1, .int .i64 0]) (Nat.zero_le _) (by decide) (by decide) (by decide) (fun x hx => by simp [domS] at hx; rcases hx with rfl | rfl <;> exact ⟨⟨by decide, by decide⟩, by decide, by decide⟩)))
                    refine hKK.out _ _ ?_ (fun hHeld => ?_)
                    · (try dsimp only); go_keep
                    clear hKK KK
                    (try simp only [Act.put, List.setIfInBounds_toArray, List.set_cons_zero, List.set_cons_succ])
                    refine wpAnyH_ready (rs := [36]) (by kernel_rfl) (by simp) ?_
                    refine AllReadyH.cons rfl (fun KK hKK => ?_) AllReadyH.nil
                    go_simp
                    (go_at_call 76; with_reducible refine (CountShape_i A6 c6 rs _ 2 2 domS _ hl6 (R3.out.below (by go_grown)) rfl (by decide) RDOM.out).mono ?_; rintro e y3 ⟨rfl, hy3⟩; rw [Hcs.out]; replace P := P.bel (bl_trans (by go_grown) hy3); have Pc := P.c1; replace R3 := Lib.hid (R3.out.below (bl_trans (by go_grown) hy3)); replace RS := Lib.hid (RS.out.below (bl_trans (by go_grown) hy3)); replace HB := Lib.hid (bl_trans HB.out (bl_trans (by go_grown) hy3)); clear hy3)
                    refine hKK.out _ _ ?_ (fun hHeld => ?_)
                    · (try dsimp only); go_keep
                    clear hKK KK
                    (try simp only [Act.put, List.setIfInBounds_toArray, List.set_cons_zero, List.set_cons_succ])
                    refine wpAnyH_ready (rs := [38]) (by kernel_rfl) (by simp) ?_
                    refine AllReadyH.cons rfl (fun KK hKK => ?_) AllReadyH.nil
                    go_simp
                    (go_at_call 77; with_reducible refine (CountTilings_s A6 c6 rs _ hl6 (R3.out.below (by go_grown))).mono ?_; rintro e y4 ⟨rfl, hy4⟩; rw [Hct.out]; replace P := P.bel (bl_trans (by go_grown) hy4); have Pc := P.c1; replace R3 := Lib.hid (R3.out.below (bl_trans (by go_grown) hy4)); replace RS := Lib.hid (RS.out.below (bl_trans (by go_grown) hy4)); replace HB := Lib.hid (bl_trans HB.out (bl_trans (by go_grown) hy4)); clear hy4)
                    refine hKK.out _ _ ?_ (fun hHeld => ?_)
                    · (try dsimp only); go_keep
                    clear hKK KK
                    (try simp only [Act.put, List.setIfInBounds_toArray, List.set_cons_zero, List.set_cons_succ])
                    refine takeX_ (i := 39) (d := some 171) (v := ?v8s39) rfl rfl (by kernel_rfl) (by kernel_rfl) (by kernel_rfl) (fun _ _ _ h => h) (Or.inl ⟨by rfl, ?hy8s39⟩) (by assumption) ?rest8s39
                    case hy8s39 => (intro w hSw; (try dsimp only at hSw); go_simp; first | done | with_reducible rfl)
                    (try simp only [Act.put, List.setIfInBounds_toArray, List.set_cons_zero, List.set_cons_succ])
                    refine takeX_ (i := 40) (d := some 172) (v := ?v8s40) rfl rfl (by kernel_rfl) (by kernel_rfl) (by kernel_rfl) (fun _ _ _ h => h) (Or.inl ⟨by rfl, ?hy8s40⟩) (by assumption) ?rest8s40
                    case hy8s40 => (intro w hSw; (try dsimp only at hSw); go_simp; first | done | with_reducible rfl)
                    (try simp only [Act.put, List.setIfInBounds_toArray, List.set_cons_zero, List.set_cons_succ])
                    refine takeX_ (i := 41) (d := some 173) (v := ?v8s41) rfl rfl (by kernel_rfl) (by kernel_rfl) (by kernel_rfl) (fun _ _ _ h => h) (Or.inl ⟨by rfl, ?hy8s41⟩) (by assumption) ?rest8s41
                    case hy8s41 => (intro w hSw; (try dsimp only at hSw); go_simp; first | done | with_reducible rfl)
                    (try simp only [Act.put, List.setIfInBounds_toArray, List.set_cons_zero, List.set_cons_succ])
                    refine takeX_ (i := 42) (d := some 2) (v := ?v8s42) rfl rfl (by kernel_rfl) (by kernel_rfl) (by kernel_rfl) (fun _ _ _ h => h) (Or.inl ⟨by rfl, ?hy8s42⟩) (by assumption) ?rest8s42
                    case hy8s42 => (intro w hSw; (try dsimp only at hSw); go_simp; first | done | with_reducible rfl)
                    (try simp only [Act.put, List.setIfInBounds_toArray, List.set_cons_zero, List.set_cons_succ])
                    refine wpAnyH_done (by kernel_rfl) ?_ _
                    all_goals (go_wp2_with fail; go_ret; exact ⟨rfl, HB.out⟩)
                · have d20 : decide ((M : Int) > 20) = true := decide_eq_true (by omega)
                  have d21 : decide ((20 : Int) < (M : Int)) = true := decide_eq_true (by omega)
                  clear h20 Hcs Hct hcc
                  rcases Hlen.out with hn | hn | hn | hn
                  · rw [show (T.length : Int) = 1 by omega]
                    have Hsym := Lib.hid (show symR s = true by rw [Hsym0.out, hn]; rfl)
                    clear hn Hlen Hsym0
                    refine wp_region_held_drew (S := (fun w' : World => w'.cell? ⟨gr, 0, none⟩ = some (.slice A6 rs.length c6))) (by kernel_rfl) ?_ (fun hHeld => ?_)
                    · (try dsimp only); go_keep
                    refine takeX_ (i := 0) (d := some 132) (v := ?v1b0) rfl rfl (by kernel_rfl) (by kernel_rfl) (by kernel_rfl) (fun _ _ _ h => h) (Or.inl ⟨by rfl, ?hy1b0⟩) (by assumption) ?rest1b0
                    case hy1b0 => (intro w hSw; (try dsimp only at hSw); go_simp; first | done | with_reducible rfl)
                    (try simp only [Act.put, List.setIfInBounds_toArray, List.set_cons_zero, List.set_cons_succ])
                    refine takeX_ (i := 1) (d := some 133) (v := ?v1b1) rfl rfl (by kernel_rfl) (by kernel_rfl) (by kernel_rfl) (fun _ _ _ h => h) (Or.inl ⟨by rfl, ?hy1b1⟩) (by assumption) ?rest1b1
                    case hy1b1 => (intro w hSw; (try dsimp only at hSw); go_simp; first | done | with_reducible rfl)
                    (try simp only [Act.put, List.setIfInBounds_toArray, List.set_cons_zero, List.set_cons_succ])
                    refine takeX_ (i := 2) (d := some 134) (v := ?v1b2) rfl rfl (by kernel_rfl) (by kernel_rfl) (by kernel_rfl) (fun _ _ _ h => h) (Or.inl ⟨by rfl, ?hy1b2⟩) (by assumption) ?rest1b2
                    case hy1b2 => (intro w hSw; (try dsimp only at hSw); go_simp; first | done | with_reducible rfl)
                    (try simp only [Act.put, List.setIfInBounds_toArray, List.set_cons_zero, List.set_cons_succ])
                    refine takeX_ (i := 3) (d := some 135) (v := ?v1b3) rfl rfl (by kernel_rfl) (by kernel_rfl) (by kernel_rfl) (fun _ _ _ h => h) (Or.inl ⟨by rfl, ?hy1b3⟩) (by assumption) ?rest1b3
                    case hy1b3 => (intro w hSw; (try dsimp only at hSw); go_simp; first | done | with_reducible rfl)
                    (try simp only [Act.put, List.setIfInBounds_toArray, List.set_cons_zero, List.set_cons_succ])
                    refine takeX_ (i := 4) (d := some 136) (v := ?v1b4) rfl rfl (by kernel_rfl) (by kernel_rfl) (by kernel_rfl) (fun _ _ _ h => h) (Or.inl ⟨by rfl, ?hy1b4⟩) (by assumption) ?rest1b4
                    case hy1b4 => (intro w hSw; (try dsimp only at hSw); go_simp; first | done | with_reducible rfl)
                    (try simp only [Act.put, List.setIfInBounds_toArray, List.set_cons_zero, List.set_cons_succ])
                    refine takeX_ (i := 5) (d := some 137) (v := ?v1b5) rfl rfl (by kernel_rfl) (by kernel_rfl) (by kernel_rfl) (fun _ _ _ h => h) (Or.inl ⟨by rfl, ?hy1b5⟩) (by assumption) ?rest1b5
                    case hy1b5 => (intro w hSw; (try dsimp only at hSw); go_simp; first | done | with_reducible rfl)
                    (try simp only [Act.put, List.setIfInBounds_toArray, List.set_cons_zero, List.set_cons_succ])
                    refine takeX_ (i := 6) (d := some 138) (v := ?v1b6) rfl rfl (by kernel_rfl) (by kernel_rfl) (by kernel_rfl) (fun _ _ _ h => h) (Or.inl ⟨by rfl, ?hy1b6⟩) (by assumption) ?rest1b6
                    case hy1b6 => (intro w hSw; (try dsimp only at hSw); go_simp; first | done | with_reducible rfl)
                    (try simp only [Act.put, List.setIfInBounds_toArray, List.set_cons_zero, List.set_cons_succ])
                    refine takeX_ (i := 7) (d := some 139) (v := ?v1b7) rfl rfl (by kernel_rfl) (by kernel_rfl) (by kernel_rfl) (fun _ _ _ h => h) (Or.inl ⟨by rfl, ?hy1b7⟩) (by assumption) ?rest1b7
                    case hy1b7 => (intro w hSw; (try dsimp only at hSw); go_simp; first | done | with_reducible rfl)
                    (try simp only [Act.put, List.setIfInBounds_toArray, List.set_cons_zero, List.set_cons_succ])
                    refine takeX_ (i := 8) (d := some 140) (v := undef) rfl rfl (by kernel_rfl) (by kernel_rfl) (by kernel_rfl) (fun _ _ _ h => h) (Or.inr ⟨by rfl, rfl⟩) (by assumption) ?_
                    (try simp only [Act.put, List.setIfInBounds_toArray, List.set_cons_zero, List.set_cons_succ])
                    refine takeX_ (i := 9) (d := some 141) (v := undef) rfl rfl (by kernel_rfl) (by kernel_rfl) (by kernel_rfl) (fun _ _ _ h => h) (Or.inr ⟨by rfl, rfl⟩) (by assumption) ?_
                    (try simp only [Act.put, List.setIfInBounds_toArray, List.set_cons_zero, List.set_cons_succ])
                    refine takeX_ (i := 10) (d := some 142) (v := ?v1b10) rfl rfl (by kernel_rfl) (by kernel_rfl) (by kernel_rfl) (fun _ _ _ h => h) (Or.inl ⟨by rfl, ?hy1b10⟩) (by assumption) ?rest1b10
                    case hy1b10 => (intro w hSw; (try dsimp only at hSw); go_simp; first | done | with_reducible rfl)
                    (try simp only [Act.put, List.setIfInBounds_toArray, List.set_cons_zero, List.set_cons_succ])
                    refine takeX_ (i := 11) (d := some 143) (v := ?v1b11) rfl rfl (by kernel_rfl) (by kernel_rfl) (by kernel_rfl) (fun _ _ _ h => h) (Or.inl ⟨by rfl, ?hy1b11⟩) (by assumption) ?rest1b11
                    case hy1b11 => (intro w hSw; (try dsimp only at hSw); go_simp; first | done | with_reducible rfl)
                    (try simp only [Act.put, List.setIfInBounds_toArray, List.set_cons_zero, List.set_cons_succ])
                    refine takeX_ (i := 12) (d := some 144) (v := undef) rfl rfl (by kernel_rfl) (by kernel_rfl) (by kernel_rfl) (fun _ _ _ h => h) (Or.inr ⟨by rfl, rfl⟩) (by assumption) ?_
                    (try simp only [Act.put, List.setIfInBounds_toArray, List.set_cons_zero, List.set_cons_succ])
                    refine takeX_ (i := 13) (d := some 145) (v := undef) rfl rfl (by kernel_rfl) (by kernel_rfl) (by kernel_rfl) (fun _ _ _ h => h) (Or.inr ⟨by rfl, rfl⟩) (by assumption) ?_
                    (try simp only [Act.put, List.setIfInBounds_toArray, List.set_cons_zero, List.set_cons_succ])
                    refine takeX_ (i := 14) (d := some 146) (v := ?v1b14) rfl rfl (by kernel_rfl) (by kernel_rfl) (by kernel_rfl) (fun _ _ _ h => h) (Or.inl ⟨by rfl, ?hy1b14⟩) (by assumption) ?rest1b14
                    case hy1b14 => (intro w hSw; (try dsimp only at hSw); go_simp; first | done | with_reducible rfl)
                    (try simp only [Act.put, List.setIfInBounds_toArray, List.set_cons_zero, List.set_cons_succ])
                    refine takeX_ (i := 15) (d := some 147) (v := ?v1b15) rfl rfl (by kernel_rfl) (by kernel_rfl) (by kernel_rfl) (fun _ _ _ h => h) (Or.inl ⟨by rfl, ?hy1b15⟩) (by assumption) ?rest1b15
                    case hy1b15 => (intro w hSw; (try dsimp only at hSw); go_simp; first | done | with_reducible rfl)
                    (try simp only [Act.put, List.setIfInBounds_toArray, List.set_cons_zero, List.set_cons_succ])
                    refine takeX_ (i := 16) (d := some 148) (v := undef) rfl rfl (by kernel_rfl) (by kernel_rfl) (by kernel_rfl) (fun _ _ _ h => h) (Or.inr ⟨by rfl, rfl⟩) (by assumption) ?_
                    (try simp only [Act.put, List.setIfInBounds_toArray, List.set_cons_zero, List.set_cons_succ])
                    refine takeX_ (i := 17) (d := some 149) (v := undef) rfl rfl (by kernel_rfl) (by kernel_rfl) (by kernel_rfl) (fun _ _ _ h => h) (Or.inr ⟨by rfl, rfl⟩) (by assumption) ?_
                    (try simp only [Act.put, List.setIfInBounds_toArray, List.set_cons_zero, List.set_cons_succ])
                    refine takeX_ (i := 18) (d := some 150) (v := ?v1b18) rfl rfl (by kernel_rfl) (by kernel_rfl) (by kernel_rfl) (fun _ _ _ h => h) (Or.inl ⟨by rfl, ?hy1b18⟩) (by assumption) ?rest1b18
                    case hy1b18 => (intro w hSw; (try dsimp only at hSw); go_simp; first | done | with_reducible rfl)
                    (try simp only [Act.put, List.setIfInBounds_toArray, List.set_cons_zero, List.set_cons_succ])
                    refine takeX_ (i := 19) (d := some 151) (v := ?v1b19) rfl rfl (by kernel_rfl) (by kernel_rfl) (by kernel_rfl) (fun _ _ _ h => h) (Or.inl ⟨by rfl, ?hy1b19⟩) (by assumption) ?rest1b19
                    case hy1b19 => (intro w hSw; (try dsimp only at hSw); go_simp; first | done | with_reducible rfl)
                    (try simp only [Act.put, List.setIfInBounds_toArray, List.set_cons_zero, List.set_cons_succ])
                    refine takeX_ (i := 20) (d := some 152) (v := ?v1b20) rfl rfl (by kernel_rfl) (by kernel_rfl) (by kernel_rfl) (fun _ _ _ h => h) (Or.inl ⟨by rfl, ?hy1b20⟩) (by assumption) ?rest1b20
                    case hy1b20 => (intro w hSw; (try dsimp only at hSw); go_simp; first | done | with_reducible rfl)
                    (try simp only [Act.put, List.setIfInBounds_toArray, List.set_cons_zero, List.set_cons_succ])
                    refine takeX_ (i := 21) (d := some 153) (v := ?v1b21) rfl rfl (by kernel_rfl) (by kernel_rfl) (by kernel_rfl) (fun _ _ _ h => h) (Or.inl ⟨by rfl, ?hy1b21⟩) (by assumption) ?rest1b21
                    case hy1b21 => (intro w hSw; (try dsimp only at hSw); go_simp; first | done | with_reducible rfl)
                    (try simp only [Act.put, List.setIfInBounds_toArray, List.set_cons_zero, List.set_cons_succ])
                    refine takeX_ (i := 23) (d := some 155) (v := ?v1b23) rfl rfl (by kernel_rfl) (by kernel_rfl) (by kernel_rfl) (fun _ _ _ h => h) (Or.inl ⟨by rfl, ?hy1b23⟩) (by assumption) ?rest1b23
                    case hy1b23 => (intro w hSw; (try dsimp only at hSw); go_simp; first | done | with_reducible rfl)
                    (try simp only [Act.put, List.setIfInBounds_toArray, List.set_cons_zero, List.set_cons_succ])
                    refine takeX_ (i := 24) (d := some 156) (v := ?v1b24) rfl rfl (by kernel_rfl) (by kernel_rfl) (by kernel_rfl) (fun _ _ _ h => h) (Or.inl ⟨by rfl, ?hy1b24⟩) (by assumption) ?rest1b24
                    case hy1b24 => (intro w hSw; (try dsimp only at hSw); go_simp; first | done | with_reducible rfl)
                    (try simp only [Act.put, List.setIfInBounds_toArray, List.set_cons_zero, List.set_cons_succ])
                    refine wpAnyH_ready (rs := [22]) (by kernel_rfl) (by simp) ?_
                    refine AllReadyH.cons rfl (fun KK hKK => ?_) AllReadyH.nil
                    go_simp
                    (go_at_call 74; with_reducible refine (IsSymmetricShape_i A nS c s _ HnS.out hnl (RS.out.below (by go_grown))).mono ?_; rintro e y1 ⟨rfl, hy1⟩; rw [Hsym.out]; replace P := P.bel (bl_trans (by go_grown) hy1); have Pc := P.c1; replace R3 := Lib.hid (R3.out.below (bl_trans (by go_grown) hy1)); replace RS := Lib.hid (RS.out.below (bl_trans (by go_grown) hy1)); replace HB := Lib.hid (bl_trans HB.out (bl_trans (by go_grown) hy1)); clear hy1)
                    refine hKK.out _ _ ?_ (fun hHeld => ?_)
                    · (try dsimp only); go_keep
                    clear hKK KK
                    (try simp only [Act.put, List.setIfInBounds_toArray, List.set_cons_zero, List.set_cons_succ])
                    refine takeX_ (i := 25) (d := some 157) (v := ?v1b25) rfl rfl (by kernel_rfl) (by kernel_rfl) (by kernel_rfl) (fun _ _ _ h => h) (Or.inl ⟨by rfl, ?hy1b25⟩) (by assumption) ?rest1b25
                    case hy1b25 => (intro w hSw; (try dsimp only at hSw); go_simp; first | done | with_reducible rfl)
                    (try simp only [Act.put, List.setIfInBounds_toArray, List.set_cons_zero, List.set_cons_succ])
                    refine takeX_ (i := 26) (d := some 158) (v := ?v1b26) rfl rfl (by kernel_rfl) (by kernel_rfl) (by kernel_rfl) (fun _ _ _ h => h) (Or.inl ⟨by rfl, ?hy1b26⟩) (by assumption) ?rest1b26
                    case hy1b26 => (intro w hSw; (try dsimp only at hSw); go_simp; first | done | with_reducible rfl)
                    (try simp only [Act.put, List.setIfInBounds_toArray, List.set_cons_zero, List.set_cons_succ])
                    refine takeX_ (i := 27) (d := some 159) (v := ?v1b27) rfl rfl (by kernel_rfl) (by kernel_rfl) (by kernel_rfl) (fun _ _ _ h => h) (Or.inl ⟨by rfl, ?hy1b27⟩) (by assumption) ?rest1b27
                    case hy1b27 => (intro w hSw; (try dsimp only at hSw); go_simp; first | done | with_reducible rfl)
                    (try simp only [Act.put, List.setIfInBounds_toArray, List.set_cons_zero, List.set_cons_succ])
                    refine takeX_ (i := 28) (d := some 160) (v := ?v1b28) rfl rfl (by kernel_rfl) (by kernel_rfl) (by kernel_rfl) (fun _ _ _ h => h) (Or.inl ⟨by rfl, ?hy1b28⟩) (by assumption) ?rest1b28
                    case hy1b28 => (intro w hSw; (try dsimp only at hSw); go_simp; first | done | with_reducible rfl)
                    (try simp only [Act.put, List.setIfInBounds_toArray, List.set_cons_zero, List.set_cons_succ])
                    refine wpAnyH_ready (rs := [29]) (by kernel_rfl) (by simp) ?_
                    refine AllReadyH.cons rfl (fun KK hKK => ?_) AllReadyH.nil
                    go_simp
                    (go_at_call 75; with_reducible refine (CountCells_s A6 c6 rs _ hl6 (R3.out.below (by go_grown))).mono ?_; rintro e y2 ⟨rfl, hy2⟩; rw [HM.out]; replace P := P.bel (bl_trans (by go_grown) hy2); have Pc := P.c1; replace R3 := Lib.hid (R3.out.below (bl_trans (by go_grown) hy2)); replace RS := Lib.hid (RS.out.below (bl_trans (by go_grown) hy2)); replace HB := Lib.hid (bl_trans HB.out (bl_trans (by go_grown) hy2)); clear hy2)
                    refine hKK.out _ _ ?_ (fun hHeld => ?_)
                    · (try dsimp only); go_keep
                    clear hKK KK
                    (try simp only [Act.put, List.setIfInBounds_toArray, List.set_cons_zero, List.set_cons_succ])
                    refine takeX_ (i := 30) (d := some 162) (v := ?v1b30) rfl rfl (by kernel_rfl) (by kernel_rfl) (by kernel_rfl) (fun _ _ _ h => h) (Or.inl ⟨by rfl, ?hy1b30⟩) (by assumption) ?rest1b30
                    case hy1b30 => (intro w hSw; (try dsimp only at hSw); go_simp; first | done | with_reducible rfl)
                    (try simp only [Act.put, List.setIfInBounds_toArray, List.set_cons_zero, List.set_cons_succ])
                    refine takeX_ (i := 31) (d := some 163) (v := ?v1b31) rfl rfl (by kernel_rfl) (by kernel_rfl) (by kernel_rfl) (fun _ _ _ h => h) (Or.inl ⟨by rfl, ?hy1b31⟩) (by assumption) ?rest1b31
                    case hy1b31 => (intro w hSw; (try dsimp only at hSw); go_simp; first | done | with_reducible rfl)
                    (try simp only [Act.put, List.setIfInBounds_toArray, List.set_cons_zero, List.set_cons_succ])
                    refine takeX_ (i := 32) (d := some 164) (v := undef) rfl rfl (by kernel_rfl) (by kernel_rfl) (by kernel_rfl) (fun _ _ _ h => h) (Or.inr ⟨by rfl, rfl⟩) (by assumption) ?_
                    (try simp only [Act.put, List.setIfInBounds_toArray, List.set_cons_zero, List.set_cons_succ])
                    refine takeX_ (i := 33) (d := some 165) (v := undef) rfl rfl (by kernel_rfl) (by kernel_rfl) (by kernel_rfl) (fun _ _ _ h => h) (Or.inr ⟨by rfl, rfl⟩) (by assumption) ?_
                    (try simp only [Act.put, List.setIfInBounds_toArray, List.set_cons_zero, List.set_cons_succ])
                    refine takeX_ (i := 34) (d := some 166) (v := undef) rfl rfl (by kernel_rfl) (by kernel_rfl) (by kernel_rfl) (fun _ _ _ h => h) (Or.inr ⟨by rfl, rfl⟩) (by assumption) ?_
                    (try simp only [Act.put, List.setIfInBounds_toArray, List.set_cons_zero, List.set_cons_succ])
                    refine takeX_ (i := 37) (d := some 169) (v := undef) rfl rfl (by kernel_rfl) (by kernel_rfl) (by kernel_rfl) (fun _ _ _ h => h) (Or.inr ⟨by rfl, rfl⟩) (by assumption) ?_
                    (try simp only [Act.put, List.setIfInBounds_toArray, List.set_cons_zero, List.set_cons_succ])
                    refine wpAnyH_ready (rs := [35]) (by kernel_rfl) (by simp) ?_
                    refine AllReadyH.cons rfl (fun KK hKK => ?_) AllReadyH.nil
                    go_simp
                    refine hKK.out _ _ ?_ (fun hHeld => ?_)
                    · (try dsimp only); go_keep
                    clear hKK KK
                    (try simp only [Act.put, List.setIfInBounds_toArray, List.set_cons_zero, List.set_cons_succ])
                    refine wpAnyH_ready (rs := [36]) (by kernel_rfl) (by simp) ?_
                    refine AllReadyH.cons rfl (fun KK hKK => ?_) AllReadyH.nil
                    go_simp
                    refine hKK.out _ _ ?_ (fun hHeld => ?_)
                    · (try dsimp only); go_keep
                    clear hKK KK
                    (try simp only [Act.put, List.setIfInBounds_toArray, List.set_cons_zero, List.set_cons_succ])
                    refine wpAnyH_ready (rs := [38]) (by kernel_rfl) (by simp) ?_
                    refine AllReadyH.cons rfl (fun KK hKK => ?_) AllReadyH.nil
                    go_simp
                    refine hKK.out _ _ ?_ (fun hHeld => ?_)
                    · (try dsimp only); go_keep
                    clear hKK KK
                    (try simp only [Act.put, List.setIfInBounds_toArray, List.set_cons_zero, List.set_cons_succ])
                    refine takeX_ (i := 39) (d := some 171) (v := undef) rfl rfl (by kernel_rfl) (by kernel_rfl) (by kernel_rfl) (fun _ _ _ h => h) (Or.inr ⟨by rfl, rfl⟩) (by assumption) ?_
                    (try simp only [Act.put, List.setIfInBounds_toArray, List.set_cons_zero, List.set_cons_succ])
                    refine takeX_ (i := 40) (d := some 172) (v := ?v1b40) rfl rfl (by kernel_rfl) (by kernel_rfl) (by kernel_rfl) (fun _ _ _ h => h) (Or.inl ⟨by rfl, ?hy1b40⟩) (by assumption) ?rest1b40
                    case hy1b40 => (intro w hSw; (try dsimp only at hSw); go_simp; first | done | with_reducible rfl)
                    (try simp only [Act.put, List.setIfInBounds_toArray, List.set_cons_zero, List.set_cons_succ])
                    refine takeX_ (i := 41) (d := some 173) (v := ?v1b41) rfl rfl (by kernel_rfl) (by kernel_rfl) (by kernel_rfl) (fun _ _ _ h => h) (Or.inl ⟨by rfl, ?hy1b41⟩) (by assumption) ?rest1b41
                    case hy1b41 => (intro w hSw; (try dsimp only at hSw); go_simp; first | done | with_reducible rfl)
                    (try simp only [Act.put, List.setIfInBounds_toArray, List.set_cons_zero, List.set_cons_succ])
                    refine takeX_ (i := 42) (d := some 2) (v := ?v1b42) rfl rfl (by kernel_rfl) (by kernel_rfl) (by kernel_rfl) (fun _ _ _ h => h) (Or.inl ⟨by rfl, ?hy1b42⟩) (by assumption) ?rest1b42
                    case hy1b42 => (intro w hSw; (try dsimp only at hSw); go_simp; first | done | with_reducible rfl)
                    (try simp only [Act.put, List.setIfInBounds_toArray, List.set_cons_zero, List.set_cons_succ])
                    refine wpAnyH_done (by kernel_rfl) ?_ _
                    all_goals (go_wp2_with fail; go_ret; exact ⟨rfl, HB.out⟩)
                  · rw [show (T.length : Int) = 2 by omega]
                    have Hsym := Lib.hid (show symR s = true by rw [Hsym0.out, hn]; rfl)
                    clear hn Hlen Hsym0
                    refine wp_region_held_drew (S := (fun w' : World => w'.cell? ⟨gr, 0, none⟩ = some (.slice A6 rs.length c6))) (by kernel_rfl) ?_ (fun hHeld => ?_)
                    · (try dsimp only); go_keep
                    refine takeX_ (i := 0) (d := some 132) (v := ?v2b0) rfl rfl (by kernel_rfl) (by kernel_rfl) (by kernel_rfl) (fun _ _ _ h => h) (Or.inl ⟨by rfl, ?hy2b0⟩) (by assumption) ?rest2b0
                    case hy2b0 => (intro w hSw; (try dsimp only at hSw); go_simp; first | done | with_reducible rfl)
                    (try simp only [Act.put, List.setIfInBounds_toArray, List.set_cons_zero, List.set_cons_succ])
                    refine takeX_ (i := 1) (d := some 133) (v := ?v2b1) rfl rfl (by kernel_rfl) (by kernel_rfl) (by kernel_rfl) (fun _ _ _ h => h) (Or.inl ⟨by rfl, ?hy2b1⟩) (by assumption) ?rest2b1
                    case hy2b1 => (intro w hSw; (try dsimp only at hSw); go_simp; first | done | with_reducible rfl)
                    (try simp only [Act.put, List.setIfInBounds_toArray, List.set_cons_zero, List.set_cons_succ])
                    refine takeX_ (i := 2) (d := some 134) (v := ?v2b2) rfl rfl (by kernel_rfl) (by kernel_rfl) (by kernel_rfl) (fun _ _ _ h => h) (Or.inl ⟨by rfl, ?hy2b2⟩) (by assumption) ?rest2b2
                    case hy2b2 => (intro w hSw; (try dsimp only at hSw); go_simp; first | done | with_reducible rfl)
                    (try simp only [Act.put, List.setIfInBounds_toArray, List.set_cons_zero, List.set_cons_succ])
                    refine takeX_ (i := 3) (d := some 135) (v := ?v2b3) rfl rfl (by kernel_rfl) (by kernel_rfl) (by kernel_rfl) (fun _ _ _ h => h) (Or.inl ⟨by rfl, ?hy2b3⟩) (by assumption) ?rest2b3
                    case hy2b3 => (intro w hSw; (try dsimp only at hSw); go_simp; first | done | with_reducible rfl)
                    (try simp only [Act.put, List.setIfInBounds_toArray, List.set_cons_zero, List.set_cons_succ])
                    refine takeX_ (i := 4) (d := some 136) (v := ?v2b4) rfl rfl (by kernel_rfl) (by kernel_rfl) (by kernel_rfl) (fun _ _ _ h => h) (Or.inl ⟨by rfl, ?hy2b4⟩) (by assumption) ?rest2b4
                    case hy2b4 => (intro w hSw; (try dsimp only at hSw); go_simp; first | done | with_reducible rfl)
                    (try simp only [Act.put, List.setIfInBounds_toArray, List.set_cons_zero, List.set_cons_succ])
                    refine takeX_ (i := 5) (d := some 137) (v := ?v2b5) rfl rfl (by kernel_rfl) (by kernel_rfl) (by kernel_rfl) (fun _ _ _ h => h) (Or.inl ⟨by rfl, ?hy2b5⟩) (by assumption) ?rest2b5
                    case hy2b5 => (intro w hSw; (try dsimp only at hSw); go_simp; first | done | with_reducible rfl)
                    (try simp only [Act.put, List.setIfInBounds_toArray, List.set_cons_zero, List.set_cons_succ])
                    refine takeX_ (i := 6) (d := some 138) (v := ?v2b6) rfl rfl (by kernel_rfl) (by kernel_rfl) (by kernel_rfl) (fun _ _ _ h => h) (Or.inl ⟨by rfl, ?hy2b6⟩) (by assumption) ?rest2b6
                    case hy2b6 => (intro w hSw; (try dsimp only at hSw); go_simp; first | done | with_reducible rfl)
                    (try simp only [Act.put, List.setIfInBounds_toArray, List.set_cons_zero, List.set_cons_succ])
                    refine takeX_ (i := 7) (d := some 139) (v := ?v2b7) rfl rfl (by kernel_rfl) (by kernel_rfl) (by kernel_rfl) (fun _ _ _ h => h) (Or.inl ⟨by rfl, ?hy2b7⟩) (by assumption) ?rest2b7
                    case hy2b7 => (intro w hSw; (try dsimp only at hSw); go_simp; first | done | with_reducible rfl)
                    (try simp only [Act.put, List.setIfInBounds_toArray, List.set_cons_zero, List.set_cons_succ])
                    refine takeX_ (i := 8) (d := some 140) (v := ?v2b8) rfl rfl (by kernel_rfl) (by kernel_rfl) (by kernel_rfl) (fun _ _ _ h => h) (Or.inl ⟨by rfl, ?hy2b8⟩) (by assumption) ?rest2b8
                    case hy2b8 => (intro w hSw; (try dsimp only at hSw); go_simp; first | done | with_reducible rfl)
                    (try simp only [Act.put, List.setIfInBounds_toArray, List.set_cons_zero, List.set_cons_succ])
                    refine takeX_ (i := 9) (d := some 141) (v := ?v2b9) rfl rfl (by kernel_rfl) (by kernel_rfl) (by kernel_rfl) (fun _ _ _ h => h) (Or.inl ⟨by rfl, ?hy2b9⟩) (by assumption) ?rest2b9
                    case hy2b9 => (intro w hSw; (try dsimp only at hSw); go_simp; first | done | with_reducible rfl)
                    (try simp only [Act.put, List.setIfInBounds_toArray, List.set_cons_zero, List.set_cons_succ])
                    refine takeX_ (i := 10) (d := some 142) (v := ?v2b10) rfl rfl (by kernel_rfl) (by kernel_rfl) (by kernel_rfl) (fun _ _ _ h => h) (Or.inl ⟨by rfl, ?hy2b10⟩) (by assumption) ?rest2b10
                    case hy2b10 => (intro w hSw; (try dsimp only at hSw); go_simp; first | done | with_reducible rfl)
                    (try simp only [Act.put, List.setIfInBounds_toArray, List.set_cons_zero, List.set_cons_succ])
                    refine takeX_ (i := 11) (d := some 143) (v := ?v2b11) rfl rfl (by kernel_rfl) (by kernel_rfl) (by kernel_rfl) (fun _ _ _ h => h) (Or.inl ⟨by rfl, ?hy2b11⟩) (by assumption) ?rest2b11
                    case hy2b11 => (intro w hSw; (try dsimp only at hSw); go_simp; first | done | with_reducible rfl)
                    (try simp only [Act.put, List.setIfInBounds_toArray, List.set_cons_zero, List.set_cons_succ])
                    refine takeX_ (i := 12) (d := some 144) (v := undef) rfl rfl (by kernel_rfl) (by kernel_rfl) (by kernel_rfl) (fun _ _ _ h => h) (Or.inr ⟨by rfl, rfl⟩) (by assumption) ?_
                    (try simp only [Act.put, List.setIfInBounds_toArray, List.set_cons_zero, List.set_cons_succ])
                    refine takeX_ (i := 13) (d := some 145) (v := undef) rfl rfl (by kernel_rfl) (by kernel_rfl) (by kernel_rfl) (fun _ _ _ h => h) (Or.inr ⟨by rfl, rfl⟩) (by assumption) ?_
                    (try simp only [Act.put, List.setIfInBounds_toArray, List.set_cons_zero, List.set_cons_succ])
                    refine takeX_ (i := 14) (d := some 146) (v := ?v2b14) rfl rfl (by kernel_rfl) (by kernel_rfl) (by kernel_rfl) (fun _ _ _ h => h) (Or.inl ⟨by rfl, ?hy2b14⟩) (by assumption) ?rest2b14
                    case hy2b14 => (intro w hSw; (try dsimp only at hSw); go_simp; first | done | with_reducible rfl)
                    (try simp only [Act.put, List.setIfInBounds_toArray, List.set_cons_zero, List.set_cons_succ])
                    refine takeX_ (i := 15) (d := some 147) (v := ?v2b15) rfl rfl (by kernel_rfl) (by kernel_rfl) (by kernel_rfl) (fun _ _ _ h => h) (Or.inl ⟨by rfl, ?hy2b15⟩) (by assumption) ?rest2b15
                    case hy2b15 => (intro w hSw; (try dsimp only at hSw); go_simp; first | done | with_reducible rfl)
                    (try simp only [Act.put, List.setIfInBounds_toArray, List.set_cons_zero, List.set_cons_succ])
                    refine takeX_ (i := 16) (d := some 148) (v := undef) rfl rfl (by kernel_rfl) (by kernel_rfl) (by kernel_rfl) (fun _ _ _ h => h) (Or.inr ⟨by rfl, rfl⟩) (by assumption) ?_
                    (try simp only [Act.put, List.setIfInBounds_toArray, List.set_cons_zero, List.set_cons_succ])
                    refine takeX_ (i := 17) (d := some 149) (v := undef) rfl rfl (by kernel_rfl) (by kernel_rfl) (by kernel_rfl) (fun _ _ _ h => h) (Or.inr ⟨by rfl, rfl⟩) (by assumption) ?_
                    (try simp only [Act.put, List.setIfInBounds_toArray, List.set_cons_zero, List.set_cons_succ])
                    refine takeX_ (i := 18) (d := some 150) (v := ?v2b18) rfl rfl (by kernel_rfl) (by kernel_rfl) (by kernel_rfl) (fun _ _ _ h => h) (Or.inl ⟨by rfl, ?hy2b18⟩) (by assumption) ?rest2b18
                    case hy2b18 => (intro w hSw; (try dsimp only at hSw); go_simp; first | done | with_reducible rfl)
                    (try simp only [Act.put, List.setIfInBounds_toArray, List.set_cons_zero, List.set_cons_succ])
                    refine takeX_ (i := 19) (d := some 151) (v := ?v2b19) rfl rfl (by kernel_rfl) (by kernel_rfl) (by kernel_rfl) (fun _ _ _ h => h) (Or.inl ⟨by rfl, ?hy2b19⟩) (by assumption) ?rest2b19
                    case hy2b19 => (intro w hSw; (try dsimp only at hSw); go_simp; first | done | with_reducible rfl)
                    (try simp only [Act.put, List.setIfInBounds_toArray, List.set_cons_zero, List.set_cons_succ])
                    refine takeX_ (i := 20) (d := some 152) (v := ?v2b20) rfl rfl (by kernel_rfl) (by kernel_rfl) (by kernel_rfl) (fun _ _ _ h => h) (Or.inl ⟨by rfl, ?hy2b20⟩) (by assumption) ?rest2b20
                    case hy2b20 => (intro w hSw; (try dsimp only at hSw); go_simp; first | done | with_reducible rfl)
                    (try simp only [Act.put, List.setIfInBounds_toArray, List.set_cons_zero, List.set_cons_succ])
                    refine takeX_ (i := 21) (d := some 153) (v := ?v2b21) rfl rfl (by kernel_rfl) (by kernel_rfl) (by kernel_rfl) (fun _ _ _ h => h) (Or.inl ⟨by rfl, ?hy2b21⟩) (by assumption) ?rest2b21
                    case hy2b21 => (intro w hSw; (try dsimp only at hSw); go_simp; first | done | with_reducible rfl)
                    (try simp only [Act.put, List.setIfInBounds_toArray, List.set_cons_zero, List.set_cons_succ])
                    refine takeX_ (i := 23) (d := some 155) (v := ?v2b23) rfl rfl (by kernel_rfl) (by kernel_rfl) (by kernel_rfl) (fun _ _ _ h => h) (Or.inl ⟨by rfl, ?hy2b23⟩) (by assumption) ?rest2b23
                    case hy2b23 => (intro w hSw; (try dsimp only at hSw); go_simp; first | done | with_reducible rfl)
                    (try simp only [Act.put, List.setIfInBounds_toArray, List.set_cons_zero, List.set_cons_succ])
                    refine takeX_ (i := 24) (d := some 156) (v := ?v2b24) rfl rfl (by kernel_rfl) (by kernel_rfl) (by kernel_rfl) (fun _ _ _ h => h) (Or.inl ⟨by rfl, ?hy2b24⟩) (by assumption) ?rest2b24
                    case hy2b24 => (intro w hSw; (try dsimp only at hSw); go_simp; first | done | with_reducible rfl)
                    (try simp only [Act.put, List.setIfInBounds_toArray, List.set_cons_zero, List.set_cons_succ])
                    refine wpAnyH_ready (rs := [22]) (by kernel_rfl) (by simp) ?_
                    refine AllReadyH.cons rfl (fun KK hKK => ?_) AllReadyH.nil
                    go_simp
                    (go_at_call 74; with_reducible refine (IsSymmetricShape_i A nS c s _ HnS.out hnl (RS.out.below (by go_grown))).mono ?_; rintro e y1 ⟨rfl, hy1⟩; rw [Hsym.out]; replace P := P.bel (bl_trans (by go_grown) hy1); have Pc := P.c1; replace R3 := Lib.hid (R3.out.below (bl_trans (by go_grown) hy1)); replace RS := Lib.hid (RS.out.below (bl_trans (by go_grown) hy1)); replace HB := Lib.hid (bl_trans HB.out (bl_trans (by go_grown) hy1)); clear hy1)
                    refine hKK.out _ _ ?_ (fun hHeld => ?_)
                    · (try dsimp only); go_keep
                    clear hKK KK
                    (try simp only [Act.put, List.setIfInBounds_toArray, List.set_cons_zero, List.set_cons_succ])
                    refine takeX_ (i := 25) (d := some 157) (v := ?v2b25) rfl rfl (by kernel_rfl) (by kernel_rfl) (by kernel_rfl) (fun _ _ _ h => h) (Or.inl ⟨by rfl, ?hy2b25⟩) (by assumption) ?rest2b25
                    case hy2b25 => (intro w hSw; (try dsimp only at hSw); go_simp; first | done | with_reducible rfl)
                    (try simp only [Act.put, List.setIfInBounds_toArray, List.set_cons_zero, List.set_cons_succ])
                    refine takeX_ (i := 26) (d := some 158) (v := ?v2b26) rfl rfl (by kernel_rfl) (by kernel_rfl) (by kernel_rfl) (fun _ _ _ h => h) (Or.inl ⟨by rfl, ?hy2b26⟩) (by assumption) ?rest2b26
                    case hy2b26 => (intro w hSw; (try dsimp only at hSw); go_simp; first | done | with_reducible rfl)
                    (try simp only [Act.put, List.setIfInBounds_toArray, List.set_cons_zero, List.set_cons_succ])
                    refine takeX_ (i := 27) (d := some 159) (v := ?v2b27) rfl rfl (by kernel_rfl) (by kernel_rfl) (by kernel_rfl) (fun _ _ _ h => h) (Or.inl ⟨by rfl, ?hy2b27⟩) (by assumption) ?rest2b27
                    case hy2b27 => (intro w hSw; (try dsimp only at hSw); go_simp; first | done | with_reducible rfl)
                    (try simp only [Act.put, List.setIfInBounds_toArray, List.set_cons_zero, List.set_cons_succ])
                    refine takeX_ (i := 28) (d := some 160) (v := ?v2b28) rfl rfl (by kernel_rfl) (by kernel_rfl) (by kernel_rfl) (fun _ _ _ h => h) (Or.inl ⟨by rfl, ?hy2b28⟩) (by assumption) ?rest2b28
                    case hy2b28 => (intro w hSw; (try dsimp only at hSw); go_simp; first | done | with_reducible rfl)
                    (try simp only [Act.put, List.setIfInBounds_toArray, List.set_cons_zero, List.set_cons_succ])
                    refine wpAnyH_ready (rs := [29]) (by kernel_rfl) (by simp) ?_
                    refine AllReadyH.cons rfl (fun KK hKK => ?_) AllReadyH.nil
                    go_simp
                    (go_at_call 75; with_reducible refine (CountCells_s A6 c6 rs _ hl6 (R3.out.below (by go_grown))).mono ?_; rintro e y2 ⟨rfl, hy2⟩; rw [HM.out]; replace P := P.bel (bl_trans (by go_grown) hy2); have Pc := P.c1; replace R3 := Lib.hid (R3.out.below (bl_trans (by go_grown) hy2)); replace RS := Lib.hid (RS.out.below (bl_trans (by go_grown) hy2)); replace HB := Lib.hid (bl_trans HB.out (bl_trans (by go_grown) hy2)); clear hy2)
                    refine hKK.out _ _ ?_ (fun hHeld => ?_)
                    · (try dsimp only); go_keep
                    clear hKK KK
                    (try simp only [Act.put, List.setIfInBounds_toArray, List.set_cons_zero, List.set_cons_succ])
                    refine takeX_ (i := 30) (d := some 162) (v := ?v2b30) rfl rfl (by kernel_rfl) (by kernel_rfl) (by kernel_rfl) (fun _ _ _ h => h) (Or.inl ⟨by rfl, ?hy2b30⟩) (by assumption) ?rest2b30
                    case hy2b30 => (intro w hSw; (try dsimp only at hSw); go_simp; first | done | with_reducible rfl)
                    (try simp only [Act.put, List.setIfInBounds_toArray, List.set_cons_zero, List.set_cons_succ])
                    refine takeX_ (i := 31) (d := some 163) (v := ?v2b31) rfl rfl (by kernel_rfl) (by kernel_rfl) (by kernel_rfl) (fun _ _ _ h => h) (Or.inl ⟨by rfl, ?hy2b31⟩) (by assumption) ?rest2b31
                    case hy2b31 => (intro w hSw; (try dsimp only at hSw); go_simp; first | done | with_reducible rfl)
                    (try simp only [Act.put, List.setIfInBounds_toArray, List.set_cons_zero, List.set_cons_succ])
                    refine takeX_ (i := 32) (d := some 164) (v := undef) rfl rfl (by kernel_rfl) (by kernel_rfl) (by kernel_rfl) (fun _ _ _ h => h) (Or.inr ⟨by rfl, rfl⟩) (by assumption) ?_
                    (try simp only [Act.put, List.setIfInBounds_toArray, List.set_cons_zero, List.set_cons_succ])
                    refine takeX_ (i := 33) (d := some 165) (v := undef) rfl rfl (by kernel_rfl) (by kernel_rfl) (by kernel_rfl) (fun _ _ _ h => h) (Or.inr ⟨by rfl, rfl⟩) (by assumption) ?_
                    (try simp only [Act.put, List.setIfInBounds_toArray, List.set_cons_zero, List.set_cons_succ])
                    refine takeX_ (i := 34) (d := some 166) (v := undef) rfl rfl (by kernel_rfl) (by kernel_rfl) (by kernel_rfl) (fun _ _ _ h => h) (Or.inr ⟨by rfl, rfl⟩) (by assumption) ?_
                    (try simp only [Act.put, List.setIfInBounds_toArray, List.set_cons_zero, List.set_cons_succ])
                    refine takeX_ (i := 37) (d := some 169) (v := undef) rfl rfl (by kernel_rfl) (by kernel_rfl) (by kernel_rfl) (fun _ _ _ h => h) (Or.inr ⟨by rfl, rfl⟩) (by assumption) ?_
                    (try simp only [Act.put, List.setIfInBounds_toArray, List.set_cons_zero, List.set_cons_succ])
                    refine wpAnyH_ready (rs := [35]) (by kernel_rfl) (by simp) ?_
                    refine AllReadyH.cons rfl (fun KK hKK => ?_) AllReadyH.nil
                    go_simp
                    refine hKK.out _ _ ?_ (fun hHeld => ?_)
                    · (try dsimp only); go_keep
                    clear hKK KK
                    (try simp only [Act.put, List.setIfInBounds_toArray, List.set_cons_zero, List.set_cons_succ])
                    refine wpAnyH_ready (rs := [36]) (by kernel_rfl) (by simp) ?_
                    refine AllReadyH.cons rfl (fun KK hKK => ?_) AllReadyH.nil
                    go_simp
                    refine hKK.out _ _ ?_ (fun hHeld => ?_)
                    · (try dsimp only); go_keep
                    clear hKK KK
                    (try simp only [Act.put, List.setIfInBounds_toArray, List.set_cons_zero, List.set_cons_succ])
                    refine wpAnyH_ready (rs := [38]) (by kernel_rfl) (by simp) ?_
                    refine AllReadyH.cons rfl (fun KK hKK => ?_) AllReadyH.nil
                    go_simp
                    refine hKK.out _ _ ?_ (fun hHeld => ?_)
                    · (try dsimp only); go_keep
                    clear hKK KK
                    (try simp only [Act.put, List.setIfInBounds_toArray, List.set_cons_zero, List.set_cons_succ])
                    refine takeX_ (i := 39) (d := some 171) (v := undef) rfl rfl (by kernel_rfl) (by kernel_rfl) (by kernel_rfl) (fun _ _ _ h => h) (Or.inr ⟨by rfl, rfl⟩) (by assumption) ?_
                    (try simp only [Act.put, List.setIfInBounds_toArray, List.set_cons_zero, List.set_cons_succ])
                    refine takeX_ (i := 40) (d := some 172) (v := ?v2b40) rfl rfl (by kernel_rfl) (by kernel_rfl) (by kernel_rfl) (fun _ _ _ h => h) (Or.inl ⟨by rfl, ?hy2b40⟩) (by assumption) ?rest2b40
                    case hy2b40 => (intro w hSw; (try dsimp only at hSw); go_simp; first | done | with_reducible rfl)
                    (try simp only [Act.put, List.setIfInBounds_toArray, List.set_cons_zero, List.set_cons_succ])
                    refine takeX_ (i := 41) (d := some 173) (v := ?v2b41) rfl rfl (by kernel_rfl) (by kernel_rfl) (by kernel_rfl) (fun _ _ _ h => h) (Or.inl ⟨by rfl, ?hy2b41⟩) (by assumption) ?rest2b41
                    case hy2b41 => (intro w hSw; (try dsimp only at hSw); go_simp; first | done | with_reducible rfl)
                    (try simp only [Act.put, List.setIfInBounds_toArray, List.set_cons_zero, List.set_cons_succ])
                    refine takeX_ (i := 42) (d := some 2) (v := ?v2b42) rfl rfl (by kernel_rfl) (by kernel_rfl) (by kernel_rfl) (fun _ _ _ h => h) (Or.inl ⟨by rfl, ?hy2b42⟩) (by assumption) ?rest2b42
                    case hy2b42 => (intro w hSw; (try dsimp only at hSw); go_simp; first | done | with_reducible rfl)
                    (try simp only [Act.put, List.setIfInBounds_toArray, List.set_cons_zero, List.set_cons_succ])
                    refine wpAnyH_done (by kernel_rfl) ?_ _
                    all_goals (go_wp2_with fail; go_ret; exact ⟨rfl, HB.out⟩)
                  · rw [show (T.length : Int) = 4 by omega]
                    have Hsym := Lib.hid (show symR s = true by rw [Hsym0.out, hn]; rfl)
                    clear hn Hlen Hsym0
                    refine wp_region_held_drew (S := (fun w' : World => w'.cell? ⟨gr, 0, none⟩ = some (.slice A6 rs.length c6))) (by kernel_rfl) ?_ (fun hHeld => ?_)
                    · (try dsimp only); go_keep
                    refine takeX_ (i := 0) (d := some 132) (v := ?v4b0) rfl rfl (by kernel_rfl) (by kernel_rfl) (by kernel_rfl) (fun _ _ _ h => h) (Or.inl ⟨by rfl, ?hy4b0⟩) (by assumption) ?rest4b0
                    case hy4b0 => (intro w hSw; (try dsimp only at hSw); go_simp; first | done | with_reducible rfl)
                    (try simp only [Act.put, List.setIfInBounds_toArray, List.set_cons_zero, List.set_cons_succ])
                    refine takeX_ (i := 1) (d := some 133) (v := ?v4b1) rfl rfl (by kernel_rfl) (by kernel_rfl) (by kernel_rfl) (fun _ _ _ h => h) (Or.inl ⟨by rfl, ?hy4b1⟩) (by assumption) ?rest4b1
                    case hy4b1 => (intro w hSw; (try dsimp only at hSw); go_simp; first | done | with_reducible rfl)
                    (try simp only [Act.put, List.setIfInBounds_toArray, List.set_cons_zero, List.set_cons_succ])
                    refine takeX_ (i := 2) (d := some 134) (v := ?v4b2) rfl rfl (by kernel_rfl) (by kernel_rfl) (by kernel_rfl) (fun _ _ _ h => h) (Or.inl ⟨by rfl, ?hy4b2⟩) (by assumption) ?rest4b2
                    case hy4b2 => (intro w hSw; (try dsimp only at hSw); go_simp; first | done | with_reducible rfl)
                    (try simp only [Act.put, List.setIfInBounds_toArray, List.set_cons_zero, List.set_cons_succ])
                    refine takeX_ (i := 3) (d := some 135) (v := ?v4b3) rfl rfl (by kernel_rfl) (by kernel_rfl) (by kernel_rfl) (fun _ _ _ h => h) (Or.inl ⟨by rfl, ?hy4b3⟩) (by assumption) ?rest4b3
                    case hy4b3 => (intro w hSw; (try dsimp only at hSw); go_simp; first | done | with_reducible rfl)
                    (try simp only [Act.put, List.setIfInBounds_toArray, List.set_cons_zero, List.set_cons_succ])
                    refine takeX_ (i := 4) (d := some 136) (v := ?v4b4) rfl rfl (by kernel_rfl) (by kernel_rfl) (by kernel_rfl) (fun _ _ _ h => h) (Or.inl ⟨by rfl, ?hy4b4⟩) (by assumption) ?rest4b4
                    case hy4b4 => (intro w hSw; (try dsimp only at hSw); go_simp; first | done | with_reducible rfl)
                    (try simp only [Act.put, List.setIfInBounds_toArray, List.set_cons_zero, List.set_cons_succ])
                    refine takeX_ (i := 5) (d := some 137) (v := ?v4b5) rfl rfl (by kernel_rfl) (by kernel_rfl) (by kernel_rfl) (fun _ _ _ h => h) (Or.inl ⟨by rfl, ?hy4b5⟩) (by assumption) ?rest4b5
                    case hy4b5 => (intro w hSw; (try dsimp only at hSw); go_simp; first | done | with_reducible rfl)
                    (try simp only [Act.put, List.setIfInBounds_toArray, List.set_cons_zero, List.set_cons_succ])
                    refine takeX_ (i := 6) (d := some 138) (v := ?v4b6) rfl rfl (by kernel_rfl) (by kernel_rfl) (by kernel_rfl) (fun _ _ _ h => h) (Or.inl ⟨by rfl, ?hy4b6⟩) (by assumption) ?rest4b6
                    case hy4b6 => (intro w hSw; (try dsimp only at hSw); go_simp; first | done | with_reducible rfl)
                    (try simp only [Act.put, List.setIfInBounds_toArray, List.set_cons_zero, List.set_cons_succ])
                    refine takeX_ (i := 7) (d := some 139) (v := ?v4b7) rfl rfl (by kernel_rfl) (by kernel_rfl) (by kernel_rfl) (fun _ _ _ h => h) (Or.inl ⟨by rfl, ?hy4b7⟩) (by assumption) ?rest4b7
                    case hy4b7 => (intro w hSw; (try dsimp only at hSw); go_simp; first | done | with_reducible rfl)
                    (try simp only [Act.put, List.setIfInBounds_toArray, List.set_cons_zero, List.set_cons_succ])
                    refine takeX_ (i := 8) (d := some 140) (v := ?v4b8) rfl rfl (by kernel_rfl) (by kernel_rfl) (by kernel_rfl) (fun _ _ _ h => h) (Or.inl ⟨by rfl, ?hy4b8⟩) (by assumption) ?rest4b8
                    case hy4b8 => (intro w hSw; (try dsimp only at hSw); go_simp; first | done | with_reducible rfl)
                    (try simp only [Act.put, List.setIfInBounds_toArray, List.set_cons_zero, List.set_cons_succ])
                    refine takeX_ (i := 9) (d := some 141) (v := ?v4b9) rfl rfl (by kernel_rfl) (by kernel_rfl) (by kernel_rfl) (fun _ _ _ h => h) (Or.inl ⟨by rfl, ?hy4b9⟩) (by assumption) ?rest4b9
                    case hy4b9 => (intro w hSw; (try dsimp only at hSw); go_simp; first | done | with_reducible rfl)
                    (try simp only [Act.put, List.setIfInBounds_toArray, List.set_cons_zero, List.set_cons_succ])
                    refine takeX_ (i := 10) (d := some 142) (v := ?v4b10) rfl rfl (by kernel_rfl) (by kernel_rfl) (by kernel_rfl) (fun _ _ _ h => h) (Or.inl ⟨by rfl, ?hy4b10⟩) (by assumption) ?rest4b10
                    case hy4b10 => (intro w hSw; (try dsimp only at hSw); go_simp; first | done | with_reducible rfl)
                    (try simp only [Act.put, List.setIfInBounds_toArray, List.set_cons_zero, List.set_cons_succ])
                    refine takeX_ (i := 11) (d := some 143) (v := ?v4b11) rfl rfl (by kernel_rfl) (by kernel_rfl) (by kernel_rfl) (fun _ _ _ h => h) (Or.inl ⟨by rfl, ?hy4b11⟩) (by assumption) ?rest4b11
                    case hy4b11 => (intro w hSw; (try dsimp only at hSw); go_simp; first | done | with_reducible rfl)
                    (try simp only [Act.put, List.setIfInBounds_toArray, List.set_cons_zero, List.set_cons_succ])
                    refine takeX_ (i := 12) (d := some 144) (v := ?v4b12) rfl rfl (by kernel_rfl) (by kernel_rfl) (by kernel_rfl) (fun _ _ _ h => h) (Or.inl ⟨by rfl, ?hy4b12⟩) (by assumption) ?rest4b12
                    case hy4b12 => (intro w hSw; (try dsimp only at hSw); go_simp; first | done | with_reducible rfl)
                    (try simp only [Act.put, List.setIfInBounds_toArray, List.set_cons_zero, List.set_cons_succ])
                    refine takeX_ (i := 13) (d := some 145) (v := ?v4b13) rfl rfl (by kernel_rfl) (by kernel_rfl) (by kernel_rfl) (fun _ _ _ h => h) (Or.inl ⟨by rfl, ?hy4b13⟩) (by assumption) ?rest4b13
                    case hy4b13 => (intro w hSw; (try dsimp only at hSw); go_simp; first | done | with_reducible rfl)
                    (try simp only [Act.put, List.setIfInBounds_toArray, List.set_cons_zero, List.set_cons_succ])
                    refine takeX_ (i := 14) (d := some 146) (v := ?v4b14) rfl rfl (by kernel_rfl) (by kernel_rfl) (by kernel_rfl) (fun _ _ _ h => h) (Or.inl ⟨by rfl, ?hy4b14⟩) (by assumption) ?rest4b14
                    case hy4b14 => (intro w hSw; (try dsimp only at hSw); go_simp; first | done | with_reducible rfl)
                    (try simp only [Act.put, List.setIfInBounds_toArray, List.set_cons_zero, List.set_cons_succ])
                    refine takeX_ (i := 15) (d := some 147) (v := ?v4b15) rfl rfl (by kernel_rfl) (by kernel_rfl) (by kernel_rfl) (fun _ _ _ h => h) (Or.inl ⟨by rfl, ?hy4b15⟩) (by assumption) ?rest4b15
                    case hy4b15 => (intro w hSw; (try dsimp only at hSw); go_simp; first | done | with_reducible rfl)
                    (try simp only [Act.put, List.setIfInBounds_toArray, List.set_cons_zero, List.set_cons_succ])
                    refine takeX_ (i := 16) (d := some 148) (v := undef) rfl rfl (by kernel_rfl) (by kernel_rfl) (by kernel_rfl) (fun _ _ _ h => h) (Or.inr ⟨by rfl, rfl⟩) (by assumption) ?_
                    (try simp only [Act.put, List.setIfInBounds_toArray, List.set_cons_zero, List.set_cons_succ])
                    refine takeX_ (i := 17) (d := some 149) (v := undef) rfl rfl (by kernel_rfl) (by kernel_rfl) (by kernel_rfl) (fun _ _ _ h => h) (Or.inr ⟨by rfl, rfl⟩) (by assumption) ?_
                    (try simp only [Act.put, List.setIfInBounds_toArray, List.set_cons_zero, List.set_cons_succ])
                    refine takeX_ (i := 18) (d := some 150) (v := ?v4b18) rfl rfl (by kernel_rfl) (by kernel_rfl) (by kernel_rfl) (fun _ _ _ h => h) (Or.inl ⟨by rfl, ?hy4b18⟩) (by assumption) ?rest4b18
                    case hy4b18 => (intro w hSw; (try dsimp only at hSw); go_simp; first | done | with_reducible rfl)
                    (try simp only [Act.put, List.setIfInBounds_toArray, List.set_cons_zero, List.set_cons_succ])
                    refine takeX_ (i := 19) (d := some 151) (v := ?v4b19) rfl rfl (by kernel_rfl) (by kernel_rfl) (by kernel_rfl) (fun _ _ _ h => h) (Or.inl ⟨by rfl, ?hy4b19⟩) (by assumption) ?rest4b19
                    case hy4b19 => (intro w hSw; (try dsimp only at hSw); go_simp; first | done | with_reducible rfl)
                    (try simp only [Act.put, List.setIfInBounds_toArray, List.set_cons_zero, List.set_cons_succ])
                    refine takeX_ (i := 20) (d := some 152) (v := ?v4b20) rfl rfl (by kernel_rfl) (by kernel_rfl) (by kernel_rfl) (fun _ _ _ h => h) (Or.inl ⟨by rfl, ?hy4b20⟩) (by assumption) ?rest4b20
                    case hy4b20 => (intro w hSw; (try dsimp only at hSw); go_simp; first | done | with_reducible rfl)
                    (try simp only [Act.put, List.setIfInBounds_toArray, List.set_cons_zero, List.set_cons_succ])
                    refine takeX_ (i := 21) (d := some 153) (v := ?v4b21) rfl rfl (by kernel_rfl) (by kernel_rfl) (by kernel_rfl) (fun _ _ _ h => h) (Or.inl ⟨by rfl, ?hy4b21⟩) (by assumption) ?rest4b21
                    case hy4b21 => (intro w hSw; (try dsimp only at hSw); go_simp; first | done | with_reducible rfl)
                    (try simp only [Act.put, List.setIfInBounds_toArray, List.set_cons_zero, List.set_cons_succ])
                    refine takeX_ (i := 23) (d := some 155) (v := ?v4b23) rfl rfl (by kernel_rfl) (by kernel_rfl) (by kernel_rfl) (fun _ _ _ h => h) (Or.inl ⟨by rfl, ?hy4b23⟩) (by assumption) ?rest4b23
                    case hy4b23 => (intro w hSw; (try dsimp only at hSw); go_simp; first | done | with_reducible rfl)
                    (try simp only [Act.put, List.setIfInBounds_toArray, List.set_cons_zero, List.set_cons_succ])
                    refine takeX_ (i := 24) (d := some 156) (v := ?v4b24) rfl rfl (by kernel_rfl) (by kernel_rfl) (by kernel_rfl) (fun _ _ _ h => h) (Or.inl ⟨by rfl, ?hy4b24⟩) (by assumption) ?rest4b24
                    case hy4b24 => (intro w hSw; (try dsimp only at hSw); go_simp; first | done | with_reducible rfl)
                    (try simp only [Act.put, List.setIfInBounds_toArray, List.set_cons_zero, List.set_cons_succ])
                    refine wpAnyH_ready (rs := [22]) (by kernel_rfl) (by simp) ?_
                    refine AllReadyH.cons rfl (fun KK hKK => ?_) AllReadyH.nil
                    go_simp
                    (go_at_call 74; with_reducible refine (IsSymmetricShape_i A nS c s _ HnS.out hnl (RS.out.below (by go_grown))).mono ?_; rintro e y1 ⟨rfl, hy1⟩; rw [Hsym.out]; replace P := P.bel (bl_trans (by go_grown) hy1); have Pc := P.c1; replace R3 := Lib.hid (R3.out.below (bl_trans (by go_grown) hy1)); replace RS := Lib.hid (RS.out.below (bl_trans (by go_grown) hy1)); replace HB := Lib.hid (bl_trans HB.out (bl_trans (by go_grown) hy1)); clear hy1)
                    refine hKK.out _ _ ?_ (fun hHeld => ?_)
                    · (try dsimp only); go_keep
                    clear hKK KK
                    (try simp only [Act.put, List.setIfInBounds_toArray, List.set_cons_zero, List.set_cons_succ])
                    refine takeX_ (i := 25) (d := some 157) (v := ?v4b25) rfl rfl (by kernel_rfl) (by kernel_rfl) (by kernel_rfl) (fun _ _ _ h => h) (Or.inl ⟨by rfl, ?hy4b25⟩) (by assumption) ?rest4b25
                    case hy4b25 => (intro w hSw; (try dsimp only at hSw); go_simp; first | done | with_reducible rfl)
                    (try simp only [Act.put, List.setIfInBounds_toArray, List.set_cons_zero, List.set_cons_succ])
                    refine takeX_ (i := 26) (d := some 158) (v := ?v4b26) rfl rfl (by kernel_rfl) (by kernel_rfl) (by kernel_rfl) (fun _ _ _ h => h) (Or.inl ⟨by rfl, ?hy4b26⟩) (by assumption) ?rest4b26
                    case hy4b26 => (intro w hSw; (try dsimp only at hSw); go_simp; first | done | with_reducible rfl)
                    (try simp only [Act.put, List.setIfInBounds_toArray, List.set_cons_zero, List.set_cons_succ])
                    refine takeX_ (i := 27) (d := some 159) (v := ?v4b27) rfl rfl (by kernel_rfl) (by kernel_rfl) (by kernel_rfl) (fun _ _ _ h => h) (Or.inl ⟨by rfl, ?hy4b27⟩) (by assumption) ?rest4b27
                    case hy4b27 => (intro w hSw; (try dsimp only at hSw); go_simp; first | done | with_reducible rfl)
                    (try simp only [Act.put, List.setIfInBounds_toArray, List.set_cons_zero, List.set_cons_succ])
                    refine takeX_ (i := 28) (d := some 160) (v := ?v4b28) rfl rfl (by kernel_rfl) (by kernel_rfl) (by kernel_rfl) (fun _ _ _ h => h) (Or.inl ⟨by rfl, ?hy4b28⟩) (by assumption) ?rest4b28
                    case hy4b28 => (intro w hSw; (try dsimp only at hSw); go_simp; first | done | with_reducible rfl)
                    (try simp only [Act.put, List.setIfInBounds_toArray, List.set_cons_zero, List.set_cons_succ])
                    refine wpAnyH_ready (rs := [29]) (by kernel_rfl) (by simp) ?_
                    refine AllReadyH.cons rfl (fun KK hKK => ?_) AllReadyH.nil
                    go_simp
                    (go_at_call 75; with_reducible refine (CountCells_s A6 c6 rs _ hl6 (R3.out.below (by go_grown))).mono ?_; rintro e y2 ⟨rfl, hy2⟩; rw [HM.out]; replace P := P.bel (bl_trans (by go_grown) hy2); have Pc := P.c1; replace R3 := Lib.hid (R3.out.below (bl_trans (by go_grown) hy2)); replace RS := Lib.hid (RS.out.below (bl_trans (by go_grown) hy2)); replace HB := Lib.hid (bl_trans HB.out (bl_trans (by go_grown) hy2)); clear hy2)
                    refine hKK.out _ _ ?_ (fun hHeld => ?_)
                    · (try dsimp only); go_keep
                    clear hKK KK
                    (try simp only [Act.put, List.setIfInBounds_toArray, List.set_cons_zero, List.set_cons_succ])
                    refine takeX_ (i := 30) (d := some 162) (v := ?v4b30) rfl rfl (by kernel_rfl) (by kernel_rfl) (by kernel_rfl) (fun _ _ _ h => h) (Or.inl ⟨by rfl, ?hy4b30⟩) (by assumption) ?rest4b30
                    case hy4b30 => (intro w hSw; (try dsimp only at hSw); go_simp; first | done | with_reducible rfl)
                    (try simp only [Act.put, List.setIfInBounds_toArray, List.set_cons_zero, List.set_cons_succ])
                    refine takeX_ (i := 31) (d := some 163) (v := ?v4b31) rfl rfl (by kernel_rfl) (by kernel_rfl) (by kernel_rfl) (fun _ _ _ h => h) (Or.inl ⟨by rfl, ?hy4b31⟩) (by assumption) ?rest4b31
                    case hy4b31 => (intro w hSw; (try dsimp only at hSw); go_simp; first | done | with_reducible rfl)
                    (try simp only [Act.put, List.setIfInBounds_toArray, List.set_cons_zero, List.set_cons_succ])
                    refine takeX_ (i := 32) (d := some 164) (v := undef) rfl rfl (by kernel_rfl) (by kernel_rfl) (by kernel_rfl) (fun _ _ _ h => h) (Or.inr ⟨by rfl, rfl⟩) (by assumption) ?_
                    (try simp only [Act.put, List.setIfInBounds_toArray, List.set_cons_zero, List.set_cons_succ])
                    refine takeX_ (i := 33) (d := some 165) (v := undef) rfl rfl (by kernel_rfl) (by kernel_rfl) (by kernel_rfl) (fun _ _ _ h => h) (Or.inr ⟨by rfl, rfl⟩) (by assumption) ?_
                    (try simp only [Act.put, List.setIfInBounds_toArray, List.set_cons_zero, List.set_cons_succ])
                    refine takeX_ (i := 34) (d := some 166) (v := undef) rfl rfl (by kernel_rfl) (by kernel_rfl) (by kernel_rfl) (fun _ _ _ h => h) (Or.inr ⟨by rfl, rfl⟩) (by assumption) ?_
                    (try simp only [Act.put, List.setIfInBounds_toArray, List.set_cons_zero, List.set_cons_succ])
                    refine takeX_ (i := 37) (d := some 169) (v := undef) rfl rfl (by kernel_rfl) (by kernel_rfl) (by kernel_rfl) (fun _ _ _ h => h) (Or.inr ⟨by rfl, rfl⟩) (by assumption) ?_
                    (try simp only [Act.put, List.setIfInBounds_toArray, List.set_cons_zero, List.set_cons_succ])
                    refine wpAnyH_ready (rs := [35]) (by kernel_rfl) (by simp) ?_
                    refine AllReadyH.cons rfl (fun KK hKK => ?_) AllReadyH.nil
                    go_simp
                    refine hKK.out _ _ ?_ (fun hHeld => ?_)
                    · (try dsimp only); go_keep
                    clear hKK KK
                    (try simp only [Act.put, List.setIfInBounds_toArray, List.set_cons_zero, List.set_cons_succ])
                    refine wpAnyH_ready (rs := [36]) (by kernel_rfl) (by simp) ?_
                    refine AllReadyH.cons rfl (fun KK hKK => ?_) AllReadyH.nil
                    go_simp
                    refine hKK.out _ _ ?_ (fun hHeld => ?_)
                    · (try dsimp only); go_keep
                    clear hKK KK
                    (try simp only [Act.put, List.setIfInBounds_toArray, List.set_cons_zero, List.set_cons_succ])
                    refine wpAnyH_ready (rs := [38]) (by kernel_rfl) (by simp) ?_
                    refine AllReadyH.cons rfl (fun KK hKK => ?_) AllReadyH.nil
                    go_simp
                    refine hKK.out _ _ ?_ (fun hHeld => ?_)
                    · (try dsimp only); go_keep
                    clear hKK KK
                    (try simp only [Act.put, List.setIfInBounds_toArray, List.set_cons_zero, List.set_cons_succ])
                    refine takeX_ (i := 39) (d := some 171) (v := undef) rfl rfl (by kernel_rfl) (by kernel_rfl) (by kernel_rfl) (fun _ _ _ h => h) (Or.inr ⟨by rfl, rfl⟩) (by assumption) ?_
                    (try simp only [Act.put, List.setIfInBounds_toArray, List.set_cons_zero, List.set_cons_succ])
                    refine takeX_ (i := 40) (d := some 172) (v := ?v4b40) rfl rfl (by kernel_rfl) (by kernel_rfl) (by kernel_rfl) (fun _ _ _ h => h) (Or.inl ⟨by rfl, ?hy4b40⟩) (by assumption) ?rest4b40
                    case hy4b40 => (intro w hSw; (try dsimp only at hSw); go_simp; first | done | with_reducible rfl)
                    (try simp only [Act.put, List.setIfInBounds_toArray, List.set_cons_zero, List.set_cons_succ])
                    refine takeX_ (i := 41) (d := some 173) (v := ?v4b41) rfl rfl (by kernel_rfl) (by kernel_rfl) (by kernel_rfl) (fun _ _ _ h => h) (Or.inl ⟨by rfl, ?hy4b41⟩) (by assumption) ?rest4b41
                    case hy4b41 => (intro w hSw; (try dsimp only at hSw); go_simp; first | done | with_reducible rfl)
                    (try simp only [Act.put, List.setIfInBounds_toArray, List.set_cons_zero, List.set_cons_succ])
                    refine takeX_ (i := 42) (d := some 2) (v := ?v4b42) rfl rfl (by kernel_rfl) (by kernel_rfl) (by kernel_rfl) (fun _ _ _ h => h) (Or.inl ⟨by rfl, ?hy4b42⟩) (by assumption) ?rest4b42
                    case hy4b42 => (intro w hSw; (try dsimp only at hSw); go_simp; first | done | with_reducible rfl)
                    (try simp only [Act.put, List.setIfInBounds_toArray, List.set_cons_zero, List.set_cons_succ])
                    refine wpAnyH_done (by kernel_rfl) ?_ _
                    all_goals (go_wp2_with fail; go_ret; exact ⟨rfl, HB.out⟩)
                  · rw [show (T.length : Int) = 8 by omega]
                    have Hsym := Lib.hid (show symR s = false by rw [Hsym0.out, hn]; rfl)
                    clear hn Hlen Hsym0
                    refine wp_region_held_drew (S := (fun w' : World => w'.cell? ⟨gr, 0, none⟩ = some (.slice A6 rs.length c6))) (by kernel_rfl) ?_ (fun hHeld => ?_)
                    · (try dsimp only); go_keep
                    refine takeX_ (i := 0) (d := some 132) (v := ?v8b0) rfl rfl (by kernel_rfl) (by kernel_rfl) (by kernel_rfl) (fun _ _ _ h => h) (Or.inl ⟨by rfl, ?hy8b0⟩) (by assumption) ?rest8b0
                    case hy8b0 => (intro w hSw; (try dsimp only at hSw); go_simp; first | done | with_reducible rfl)
                    (try simp only [Act.put, List.setIfInBounds_toArray, List.set_cons_zero, List.set_cons_succ])
                    refine takeX_ (i := 1) (d := some 133) (v := ?v8b1) rfl rfl (by kernel_rfl) (by kernel_rfl) (by kernel_rfl) (fun _ _ _ h => h) (Or.inl ⟨by rfl, ?hy8b1⟩) (by assumption) ?rest8b1
                    case hy8b1 => (intro w hSw; (try dsimp only at hSw); go_simp; first | done | with_reducible rfl)
                    (try simp only [Act.put, List.setIfInBounds_toArray, List.set_cons_zero, List.set_cons_succ])
                    refine takeX_ (i := 2) (d := some 134) (v := ?v8b2) rfl rfl (by kernel_rfl) (by kernel_rfl) (by kernel_rfl) (fun _ _ _ h => h) (Or.inl ⟨by rfl, ?hy8b2⟩) (by assumption) ?rest8b2
                    case hy8b2 => (intro w hSw; (try dsimp only at hSw); go_simp; first | done | with_reducible rfl)
                    (try simp only [Act.put, List.setIfInBounds_toArray, List.set_cons_zero, List.set_cons_succ])
                    refine takeX_ (i := 3) (d := some 135) (v := ?v8b3) rfl rfl (by kernel_rfl) (by kernel_rfl) (by kernel_rfl) (fun _ _ _ h => h) (Or.inl ⟨by rfl, ?hy8b3⟩) (by assumption) ?rest8b3
                    case hy8b3 => (intro w hSw; (try dsimp only at hSw); go_simp; first | done | with_reducible rfl)
                    (try simp only [Act.put, List.setIfInBounds_toArray, List.set_cons_zero, List.set_cons_succ])
                    refine takeX_ (i := 4) (d := some 136) (v := ?v8b4) rfl rfl (by kernel_rfl) (by kernel_rfl) (by kernel_rfl) (fun _ _ _ h => h) (Or.inl ⟨by rfl, ?hy8b4⟩) (by assumption) ?rest8b4
                    case hy8b4 => (intro w hSw; (try dsimp only at hSw); go_simp; first | done | with_reducible rfl)
                    (try simp only [Act.put, List.setIfInBounds_toArray, List.set_cons_zero, List.set_cons_succ])
                    refine takeX_ (i := 5) (d := some 137) (v := ?v8b5) rfl rfl (by kernel_rfl) (by kernel_rfl) (by kernel_rfl) (fun _ _ _ h => h) (Or.inl ⟨by rfl, ?hy8b5⟩) (by assumption) ?rest8b5
                    case hy8b5 => (intro w hSw; (try dsimp only at hSw); go_simp; first | done | with_reducible rfl)
                    (try simp only [Act.put, List.setIfInBounds_toArray, List.set_cons_zero, List.set_cons_succ])
                    refine takeX_ (i := 6) (d := some 138) (v := ?v8b6) rfl rfl (by kernel_rfl) (by kernel_rfl) (by kernel_rfl) (fun _ _ _ h => h) (Or.inl ⟨by rfl, ?hy8b6⟩) (by assumption) ?rest8b6
                    case hy8b6 => (intro w hSw; (try dsimp only at hSw); go_simp; first | done | with_reducible rfl)
                    (try simp only [Act.put, List.setIfInBounds_toArray, List.set_cons_zero, List.set_cons_succ])
                    refine takeX_ (i := 7) (d := some 139) (v := ?v8b7) rfl rfl (by kernel_rfl) (by kernel_rfl) (by kernel_rfl) (fun _ _ _ h => h) (Or.inl ⟨by rfl, ?hy8b7⟩) (by assumption) ?rest8b7
                    case hy8b7 => (intro w hSw; (try dsimp only at hSw); go_simp; first | done | with_reducible rfl)
                    (try simp only [Act.put, List.setIfInBounds_toArray, List.set_cons_zero, List.set_cons_succ])
                    refine takeX_ (i := 8) (d := some 140) (v := ?v8b8) rfl rfl (by kernel_rfl) (by kernel_rfl) (by kernel_rfl) (fun _ _ _ h => h) (Or.inl ⟨by rfl, ?hy8b8⟩) (by assumption) ?rest8b8
                    case hy8b8 => (intro w hSw; (try dsimp only at hSw); go_simp; first | done | with_reducible rfl)
                    (try simp only [Act.put, List.setIfInBounds_toArray, List.set_cons_zero, List.set_cons_succ])
                    refine takeX_ (i := 9) (d := some 141) (v := ?v8b9) rfl rfl (by kernel_rfl) (by kernel_rfl) (by kernel_rfl) (fun _ _ _ h => h) (Or.inl ⟨by rfl, ?hy8b9⟩) (by assumption) ?rest8b9
                    case hy8b9 => (intro w hSw; (try dsimp only at hSw); go_simp; first | done | with_reducible rfl)
                    (try simp only [Act.put, List.setIfInBounds_toArray, List.set_cons_zero, List.set_cons_succ])
                    refine takeX_ (i := 10) (d := some 142) (v := ?v8b10) rfl rfl (by kernel_rfl) (by kernel_rfl) (by kernel_rfl) (fun _ _ _ h => h) (Or.inl ⟨by rfl, ?hy8b10⟩) (by assumption) ?rest8b10
                    case hy8b10 => (intro w hSw; (try dsimp only at hSw); go_simp; first | done | with_reducible rfl)
                    (try simp only [Act.put, List.setIfInBounds_toArray, List.set_cons_zero, List.set_cons_succ])
                    refine takeX_ (i := 11) (d := some 143) (v := ?v8b11) rfl rfl (by kernel_rfl) (by kernel_rfl) (by kernel_rfl) (fun _ _ _ h => h) (Or.inl ⟨by rfl, ?hy8b11⟩) (by assumption) ?rest8b11
                    case hy8b11 => (intro w hSw; (try dsimp only at hSw); go_simp; first | done | with_reducible rfl)
                    (try simp only [Act.put, List.setIfInBounds_toArray, List.set_cons_zero, List.set_cons_succ])
                    refine takeX_ (i := 12) (d := some 144) (v := ?v8b12) rfl rfl (by kernel_rfl) (by kernel_rfl) (by kernel_rfl) (fun _ _ _ h => h) (Or.inl ⟨by rfl, ?hy8b12⟩) (by assumption) ?rest8b12
                    case hy8b12 => (intro w hSw; (try dsimp only at hSw); go_simp; first | done | with_reducible rfl)
                    (try simp only [Act.put, List.setIfInBounds_toArray, List.set_cons_zero, List.set_cons_succ])
                    refine takeX_ (i := 13) (d := some 145) (v := ?v8b13) rfl rfl (by kernel_rfl) (by kernel_rfl) (by kernel_rfl) (fun _ _ _ h => h) (Or.inl ⟨by rfl, ?hy8b13⟩) (by assumption) ?rest8b13
                    case hy8b13 => (intro w hSw; (try dsimp only at hSw); go_simp; first | done | with_reducible rfl)
                    (try simp only [Act.put, List.setIfInBounds_toArray, List.set_cons_zero, List.set_cons_succ])
                    refine takeX_ (i := 14) (d := some 146) (v := ?v8b14) rfl rfl (by kernel_rfl) (by kernel_rfl) (by kernel_rfl) (fun _ _ _ h => h) (Or.inl ⟨by rfl, ?hy8b14⟩) (by assumption) ?rest8b14
                    case hy8b14 => (intro w hSw; (try dsimp only at hSw); go_simp; first | done | with_reducible rfl)
                    (try simp only [Act.put, List.setIfInBounds_toArray, List.set_cons_zero, List.set_cons_succ])
                    refine takeX_ (i := 15) (d := some 147) (v := ?v8b15) rfl rfl (by kernel_rfl) (by kernel_rfl) (by kernel_rfl) (fun _ _ _ h => h) (Or.inl ⟨by rfl, ?hy8b15⟩) (by assumption) ?rest8b15
                    case hy8b15 => (intro w hSw; (try dsimp only at hSw); go_simp; first | done | with_reducible rfl)
                    (try simp only [Act.put, List.setIfInBounds_toArray, List.set_cons_zero, List.set_cons_succ])
                    refine takeX_ (i := 16) (d := some 148) (v := ?v8b16) rfl rfl (by kernel_rfl) (by kernel_rfl) (by kernel_rfl) (fun _ _ _ h => h) (Or.inl ⟨by rfl, ?hy8b16⟩) (by assumption) ?rest8b16
                    case hy8b16 => (intro w hSw; (try dsimp only at hSw); go_simp; first | done | with_reducible rfl)
                    (try simp only [Act.put, List.setIfInBounds_toArray, List.set_cons_zero, List.set_cons_succ])
                    refine takeX_ (i := 17) (d := some 149) (v := ?v8b17) rfl rfl (by kernel_rfl) (by kernel_rfl) (by kernel_rfl) (fun _ _ _ h => h) (Or.inl ⟨by rfl, ?hy8b17⟩) (by assumption) ?rest8b17
                    case hy8b17 => (intro w hSw; (try dsimp only at hSw); go_simp; first | done | with_reducible rfl)
                    (try simp only [Act.put, List.setIfInBounds_toArray, List.set_cons_zero, List.set_cons_succ])
                    refine takeX_ (i := 18) (d := some 150) (v := ?v8b18) rfl rfl (by kernel_rfl) (by kernel_rfl) (by kernel_rfl) (fun _ _ _ h => h) (Or.inl ⟨by rfl, ?hy8b18⟩) (by assumption) ?rest8b18
                    case hy8b18 => (intro w hSw; (try dsimp only at hSw); go_simp; first | done | with_reducible rfl)
                    (try simp only [Act.put, List.setIfInBounds_toArray, List.set_cons_zero, List.set_cons_succ])
                    refine takeX_ (i := 19) (d := some 151) (v := ?v8b19) rfl rfl (by kernel_rfl) (by kernel_rfl) (by kernel_rfl) (fun _ _ _ h => h) (Or.inl ⟨by rfl, ?hy8b19⟩) (by assumption) ?rest8b19
                    case hy8b19 => (intro w hSw; (try dsimp only at hSw); go_simp; first | done | with_reducible rfl)
                    (try simp only [Act.put, List.setIfInBounds_toArray, List.set_cons_zero, List.set_cons_succ])
                    refine takeX_ (i := 20) (d := some 152) (v := ?v8b20) rfl rfl (by kernel_rfl) (by kernel_rfl) (by kernel_rfl) (fun _ _ _ h => h) (Or.inl ⟨by rfl, ?hy8b20⟩) (by assumption) ?rest8b20
                    case hy8b20 => (intro w hSw; (try dsimp only at hSw); go_simp; first | done | with_reducible rfl)
                    (try simp only [Act.put, List.setIfInBounds_toArray, List.set_cons_zero, List.set_cons_succ])
                    refine takeX_ (i := 21) (d := some 153) (v := ?v8b21) rfl rfl (by kernel_rfl) (by kernel_rfl) (by kernel_rfl) (fun _ _ _ h => h) (Or.inl ⟨by rfl, ?hy8b21⟩) (by assumption) ?rest8b21
                    case hy8b21 => (intro w hSw; (try dsimp only at hSw); go_simp; first | done | with_reducible rfl)
                    (try simp only [Act.put, List.setIfInBounds_toArray, List.set_cons_zero, List.set_cons_succ])
                    refine takeX_ (i := 23) (d := some 155) (v := ?v8b23) rfl rfl (by kernel_rfl) (by kernel_rfl) (by kernel_rfl) (fun _ _ _ h => h) (Or.inl ⟨by rfl, ?hy8b23⟩) (by assumption) ?rest8b23
                    case hy8b23 => (intro w hSw; (try dsimp only at hSw); go_simp; first | done | with_reducible rfl)
                    (try simp only [Act.put, List.setIfInBounds_toArray, List.set_cons_zero, List.set_cons_succ])
                    refine takeX_ (i := 24) (d := some 156) (v := ?v8b24) rfl rfl (by kernel_rfl) (by kernel_rfl) (by kernel_rfl) (fun _ _ _ h => h) (Or.inl ⟨by rfl, ?hy8b24⟩) (by assumption) ?rest8b24
                    case hy8b24 => (intro w hSw; (try dsimp only at hSw); go_simp; first | done | with_reducible rfl)
                    (try simp only [Act.put, List.setIfInBounds_toArray, List.set_cons_zero, List.set_cons_succ])
                    refine wpAnyH_ready (rs := [22]) (by kernel_rfl) (by simp) ?_
                    refine AllReadyH.cons rfl (fun KK hKK => ?_) AllReadyH.nil
                    go_simp
                    (go_at_call 74; with_reducible refine (IsSymmetricShape_i A nS c s _ HnS.out hnl (RS.out.below (by go_grown))).mono ?_; rintro e y1 ⟨rfl, hy1⟩; rw [Hsym.out]; replace P := P.bel (bl_trans (by go_grown) hy1); have Pc := P.c1; replace R3 := Lib.hid (R3.out.below (bl_trans (by go_grown) hy1)); replace RS := Lib.hid (RS.out.below (bl_trans (by go_grown) hy1)); replace HB := Lib.hid (bl_trans HB.out (bl_trans (by go_grown) hy1)); clear hy1)
                    refine hKK.out _ _ ?_ (fun hHeld => ?_)
                    · (try dsimp only); go_keep
                    clear hKK KK
                    (try simp only [Act.put, List.setIfInBounds_toArray, List.set_cons_zero, List.set_cons_succ])
                    refine takeX_ (i := 25) (d := some 157) (v := ?v8b25) rfl rfl (by kernel_rfl) (by kernel_rfl) (by kernel_rfl) (fun _ _ _ h => h) (Or.inl ⟨by rfl, ?hy8b25⟩) (by assumption) ?rest8b25
                    case hy8b25 => (intro w hSw; (try dsimp only at hSw); go_simp; first | done | with_reducible rfl)
                    (try simp only [Act.put, List.setIfInBounds_toArray, List.set_cons_zero, List.set_cons_succ])
                    refine takeX_ (i := 26) (d := some 158) (v := ?v8b26) rfl rfl (by kernel_rfl) (by kernel_rfl) (by kernel_rfl) (fun _ _ _ h => h) (Or.inl ⟨by rfl, ?hy8b26⟩) (by assumption) ?rest8b26
                    case hy8b26 => (intro w hSw; (try dsimp only at hSw); go_simp; first | done | with_reducible rfl)
                    (try simp only [Act.put, List.setIfInBounds_toArray, List.set_cons_zero, List.set_cons_succ])
                    refine takeX_ (i := 27) (d := some 159) (v := ?v8b27) rfl rfl (by kernel_rfl) (by kernel_rfl) (by kernel_rfl) (fun _ _ _ h => h) (Or.inl ⟨by rfl, ?hy8b27⟩) (by assumption) ?rest8b27
                    case hy8b27 => (intro w hSw; (try dsimp only at hSw); go_simp; first | done | with_reducible rfl)
                    (try simp only [Act.put, List.setIfInBounds_toArray, List.set_cons_zero, List.set_cons_succ])
                    refine takeX_ (i := 28) (d := some 160) (v := ?v8b28) rfl rfl (by kernel_rfl) (by kernel_rfl) (by kernel_rfl) (fun _ _ _ h => h) (Or.inl ⟨by rfl, ?hy8b28⟩) (by assumption) ?rest8b28
                    case hy8b28 => (intro w hSw; (try dsimp only at hSw); go_simp; first | done | with_reducible rfl)
                    (try simp only [Act.put, List.setIfInBounds_toArray, List.set_cons_zero, List.set_cons_succ])
                    refine wpAnyH_ready (rs := [29]) (by kernel_rfl) (by simp) ?_
                    refine AllReadyH.cons rfl (fun KK hKK => ?_) AllReadyH.nil
                    go_simp
                    (go_at_call 75; with_reducible refine (CountCells_s A6 c6 rs _ hl6 (R3.out.below (by go_grown))).mono ?_; rintro e y2 ⟨rfl, hy2⟩; rw [HM.out]; replace P := P.bel (bl_trans (by go_grown) hy2); have Pc := P.c1; replace R3 := Lib.hid (R3.out.below (bl_trans (by go_grown) hy2)); replace RS := Lib.hid (RS.out.below (bl_trans (by go_grown) hy2)); replace HB := Lib.hid (bl_trans HB.out (bl_trans (by go_grown) hy2)); clear hy2)
                    refine hKK.out _ _ ?_ (fun hHeld => ?_)
                    · (try dsimp only); go_keep
                    clear hKK KK
                    (try simp only [Act.put, List.setIfInBounds_toArray, List.set_cons_zero, List.set_cons_succ])
                    refine takeX_ (i := 30) (d := some 162) (v := ?v8b30) rfl rfl (by kernel_rfl) (by kernel_rfl) (by kernel_rfl) (fun _ _ _ h => h) (Or.inl ⟨by rfl, ?hy8b30⟩) (by assumption) ?rest8b30
                    case hy8b30 => (intro w hSw; (try dsimp only at hSw); go_simp; first | done | with_reducible rfl)
                    (try simp only [Act.put, List.setIfInBounds_toArray, List.set_cons_zero, List.set_cons_succ])
                    refine takeX_ (i := 31) (d := some 163) (v := ?v8b31) rfl rfl (by kernel_rfl) (by kernel_rfl) (by kernel_rfl) (fun _ _ _ h => h) (Or.inl ⟨by rfl, ?hy8b31⟩) (by assumption) ?rest8b31
                    case hy8b31 => (intro w hSw; (try dsimp only at hSw); go_simp; first | done | with_reducible rfl)
                    (try simp only [Act.put, List.setIfInBounds_toArray, List.set_cons_zero, List.set_cons_succ])
                    refine takeX_ (i := 32) (d := some 164) (v := undef) rfl rfl (by kernel_rfl) (by kernel_rfl) (by kernel_rfl) (fun _ _ _ h => h) (Or.inr ⟨by rfl, rfl⟩) (by assumption) ?_
                    (try simp only [Act.put, List.setIfInBounds_toArray, List.set_cons_zero, List.set_cons_succ])
                    refine takeX_ (i := 33) (d := some 165) (v := undef) rfl rfl (by kernel_rfl) (by kernel_rfl) (by kernel_rfl) (fun _ _ _ h => h) (Or.inr ⟨by rfl, rfl⟩) (by assumption) ?_
                    (try simp only [Act.put, List.setIfInBounds_toArray, List.set_cons_zero, List.set_cons_succ])
                    refine takeX_ (i := 34) (d := some 166) (v := undef) rfl rfl (by kernel_rfl) (by kernel_rfl) (by kernel_rfl) (fun _ _ _ h => h) (Or.inr ⟨by rfl, rfl⟩) (by assumption) ?_
                    (try simp only [Act.put, List.setIfInBounds_toArray, List.set_cons_zero, List.set_cons_succ])
                    refine takeX_ (i := 37) (d := some 169) (v := undef) rfl rfl (by kernel_rfl) (by kernel_rfl) (by kernel_rfl) (fun _ _ _ h => h) (Or.inr ⟨by rfl, rfl⟩) (by assumption) ?_
                    (try simp only [Act.put, List.setIfInBounds_toArray, List.set_cons_zero, List.set_cons_succ])
                    refine wpAnyH_ready (rs := [35]) (by kernel_rfl) (by simp) ?_
                    refine AllReadyH.cons rfl (fun KK hKK => ?_) AllReadyH.nil
                    go_simp
                    refine hKK.out _ _ ?_ (fun hHeld => ?_)
                    · (try dsimp only); go_keep
                    clear hKK KK
                    (try simp only [Act.put, List.setIfInBounds_toArray, List.set_cons_zero, List.set_cons_succ])
                    refine wpAnyH_ready (rs := [36]) (by kernel_rfl) (by simp) ?_
                    refine AllReadyH.cons rfl (fun KK hKK => ?_) AllReadyH.nil
                    go_simp
                    refine hKK.out _ _ ?_ (fun hHeld => ?_)
                    · (try dsimp only); go_keep
                    clear hKK KK
                    (try simp only [Act.put, List.setIfInBounds_toArray, List.set_cons_zero, List.set_cons_succ])
                    refine wpAnyH_ready (rs := [38]) (by kernel_rfl) (by simp) ?_
                    refine AllReadyH.cons rfl (fun KK hKK => ?_) AllReadyH.nil
                    go_simp
                    refine hKK.out _ _ ?_ (fun hHeld => ?_)
                    · (try dsimp only); go_keep
                    clear hKK KK
                    (try simp only [Act.put, List.setIfInBounds_toArray, List.set_cons_zero, List.set_cons_succ])
                    refine takeX_ (i := 39) (d := some 171) (v := undef) rfl rfl (by kernel_rfl) (by kernel_rfl) (by kernel_rfl) (fun _ _ _ h => h) (Or.inr ⟨by rfl, rfl⟩) (by assumption) ?_
                    (try simp only [Act.put, List.setIfInBounds_toArray, List.set_cons_zero, List.set_cons_succ])
                    refine takeX_ (i := 40) (d := some 172) (v := ?v8b40) rfl rfl (by kernel_rfl) (by kernel_rfl) (by kernel_rfl) (fun _ _ _ h => h) (Or.inl ⟨by rfl, ?hy8b40⟩) (by assumption) ?rest8b40
                    case hy8b40 => (intro w hSw; (try dsimp only at hSw); go_simp; first | done | with_reducible rfl)
                    (try simp only [Act.put, List.setIfInBounds_toArray, List.set_cons_zero, List.set_cons_succ])
                    refine takeX_ (i := 41) (d := some 173) (v := ?v8b41) rfl rfl (by kernel_rfl) (by kernel_rfl) (by kernel_rfl) (fun _ _ _ h => h) (Or.inl ⟨by rfl, ?hy8b41⟩) (by assumption) ?rest8b41
                    case hy8b41 => (intro w hSw; (try dsimp only at hSw); go_simp; first | done | with_reducible rfl)
                    (try simp only [Act.put, List.setIfInBounds_toArray, List.set_cons_zero, List.set_cons_succ])
                    refine takeX_ (i := 42) (d := some 2) (v := ?v8b42) rfl rfl (by kernel_rfl) (by kernel_rfl) (by kernel_rfl) (fun _ _ _ h => h) (Or.inl ⟨by rfl, ?hy8b42⟩) (by assumption) ?rest8b42
                    case hy8b42 => (intro w hSw; (try dsimp only at hSw); go_simp; first | done | with_reducible rfl)
                    (try simp only [Act.put, List.setIfInBounds_toArray, List.set_cons_zero, List.set_cons_succ])
                    refine wpAnyH_done (by kernel_rfl) ?_ _
                    all_goals (go_wp2_with fail; go_ret; exact ⟨rfl, HB.out⟩)
end Go.Proofs.Ytdcjhfmkkcakhaa

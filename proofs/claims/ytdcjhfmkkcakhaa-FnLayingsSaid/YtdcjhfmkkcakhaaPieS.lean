/-
  Contracts of the reference's PieceOf and CountPieces: the cells reached from a cell of the region, and the number of the pieces; nothing that was there is written; the region is valid (PieceOf: it holds the cell).
-/
import Derived.Test.YtdcjhfmkkcakhaaLayQ
import Derived.Test.YtdcjhfmkkcakhaaSlices
import Derived.Deep.RegionWith
import Derived.Deep.CutRange
import Derived.BigQuiet
namespace Go.Proofs.Ytdcjhfmkkcakhaa
open Go.ChangeShapes Go.WideShapes Go.ChangeAt Go.RowKit Go.Deep
set_option linter.unusedVariables false

theorem OwC.ne_of {B g : Nat} {w : World} {v : Value} {l : List Cl} {E : TypeId} {xs : List Value} (o : OwC B w v l) (h : Blk w g E xs) (hne : E ≠ 35) : ∀ k, v.ownBlock = some k → g ≠ k := by
  intro k hk e
  subst e
  obtain ⟨cur, fr, h1⟩ := own_typ o.2.1 g hk
  have h2 : w.heap[g]? = some (.cells xs.toArray E (0, 0)) := h
  rw [h1] at h2
  injection h2 with h2
  injection h2 with _ h3
  exact hne h3.symm
theorem HasCell_sy (A : Option Addr) (c : Nat) (l : List Int) (x y : Int) (w : World) (hl : l.length ≤ 1048576) (hr : RdI w A l) (hreg : regOk l = true) (hc : cellOk x y = true) (hb : (regSet l).testBit (idxN (x, y)) = true) :
    Calls Try.prog 84 #[.agg #[.slice A l.length c], .agg #[.int .i64 x, .int .i64 y]] w fun e w' => e = .returned (.bool true) ∧ Below w.heap.size w w' :=
  (HasCell_s A c l x y w hl hr).mono fun e w' h => ⟨h.1.trans (by rw [HasCell_bit hreg hc, hb]), h.2⟩
set_option maxRecDepth 100000 in
set_option maxHeartbeats 4000000 in
theorem PieceOf_any (A : Option Addr) (c : Nat) (rs : List Int) (x y : Int) (w : World) (hl : rs.length ≤ 1048576) (hr : RdI w A rs) (hreg : regOk rs = true) (hok : cellOk x y = true) (hb0 : (regSet rs).testBit (idxN (x, y)) = true) :
    Calls Try.prog 166 #[.agg #[.slice A rs.length c], .agg #[.int .i64 x, .int .i64 y]] w fun e w' => ∃ v, e = .returned v ∧ OwC w.heap.size w' v (pieceC rs (x, y)) ∧ Below w.heap.size w w' := by
  have hmk : ∀ w : World, (Instr.makeSlice 119 (.int .i64 64) (.int .i64 64)).run Try.prog w = .ok (.slice (some ⟨w.heap.size, 0, none⟩) 64 64) (w.alloc (.cells (madeCells #[.bool false] 64) 4)) := run_make_row' (P := Try.prog) 119 4 (.bool false) 1 Try.underlying119 info_bool rfl .i64 .i64 64 (by omega) (by omega)
  have hr' := Lib.hid hr
  have hi0 := cellOk_iff.1 hok
  have h8 := (regOk_iff.1 hreg).1
  have h255 := Lib.hid (regOk_iff.1 hreg).2
  have HREG := Lib.hid hreg
  have Hok := Lib.hid hok
  have Hb0 := Lib.hid hb0
  have em : (mkB 0).toArray = madeCells #[.bool false] 64 := by rw [mkB_zero, made_list]
  have hB := bl_alloc (bl_alloc (bl_alloc (Below.refl w.heap.size w) (.cells #[.slice A rs.length c] 31)) (.cells #[.int .i64 x, .int .i64 y] 35)) (.cells #[] 35)
  have P := ((Blk.new w 31 [.slice A rs.length c]).alloc (.cells #[.int .i64 x, .int .i64 y] 35)).alloc (.cells #[] 35)
  have Q := (Blk.new2 w (.cells #[.slice A rs.length c] 31) 35 [.int .i64 x, .int .i64 y]).alloc (.cells #[] 35)
  have E := Blk.new3 w (.cells #[.slice A rs.length c] 31) (.cells #[.int .i64 x, .int .i64 y] 35) 35 []
  have Pc := P.c1
  have Qc := Q.c2
  have hSlt := regSet_lt hreg
  obtain ⟨n0, hn0⟩ : ∃ n0, n0 = idxN (x, y) := ⟨_, rfl⟩
  have hb0 : n0 < 64 := by rw [hn0]; exact idxN_lt hok
  have HI0 := Lib.hid (show ∀ w : World, Calls Try.prog 180 #[.agg #[.int .i64 x, .int .i64 y]] w fun e w' => e = .returned (.int .i64 (n0 : Nat)) ∧ Below w.heap.size w w' from fun w => by rw [hn0]; exact CellIndex_n x y w hok)
  obtain ⟨fr, hfr⟩ : ∃ fr, fr = regSet rs := ⟨_, rfl⟩
  have hfl : fr < 18446744073709551616 := by rw [hfr]; exact hSlt
  have HFR := Lib.hid hfr
  have HN0 := Lib.hid hn0
  clear hr hn0 hfr hok hreg hSlt
  go_enter Try.func166, Try.ntmps166
  go_upto_region 4 with (go_at_call 84; refine (HasCell_sy A c rs x y _ hl (hr'.out.below hB) HREG.out Hok.out Hb0.out).mono ?_; rintro e wh ⟨rfl, hbn⟩; have hSz := bl_sz (bl_trans hB (by go_grown)) hbn; replace hB := bl_trans (bl_trans hB (by go_grown)) hbn; replace P := P.bel (bl_trans (by go_grown) hbn); replace Pc := P.c1; replace Q := Q.bel (bl_trans (by go_grown) hbn); replace Qc := Q.c2; replace E := E.bel hbn; clear hbn)
  have M := Blk.new wh 4 (mkB 0)
  rw [em] at M
  have hElt := E.lt
  replace P := P.alloc (.cells (madeCells #[.bool false] 64) 4)
  replace Q := Q.alloc (.cells (madeCells #[.bool false] 64) 4)
  replace E := E.alloc (.cells (madeCells #[.bool false] 64) 4)
  replace Pc := P.c1
  replace Qc := Q.c2
  replace hB := bl_alloc hB (.cells (madeCells #[.bool false] 64) 4)
  have hwh : w.heap.size + 1 + 1 < wh.heap.size := hElt
  clear hElt
  have mk0 := M.getB hb0
  go_wp2_with fail
  (refine (HI0.out _).mono ?_; rintro e wn ⟨rfl, hbn⟩; have hSz := bl_sz (bl_trans hB (by go_grown)) hbn; replace hB := bl_trans (bl_trans hB (by go_grown)) hbn; replace P := P.bel (bl_trans (by go_grown) hbn); replace Pc := P.c1; replace Q := Q.bel (bl_trans (by go_grown) hbn); replace Qc := Q.c2; replace M := M.bel hbn; replace E := E.bel hbn; have m1 := M.getB hb0; have mf := M.frozen n0; replace M := M.setB n0; replace P := P.farN wh.heap.size n0 (by omega) (.bool true); replace Q := Q.farN wh.heap.size n0 (by omega) (.bool true); replace E := E.farN wh.heap.size n0 (by omega) (.bool true); replace Pc := P.c1; replace Qc := Q.c2; replace hB := bl_set hB (p := ⟨wh.heap.size, n0, none⟩) (by show w.heap.size ≤ wh.heap.size; omega) (.bool true); clear hbn)
  obtain ⟨B, hBe⟩ : ∃ B, B = wh.heap.size + 1 := ⟨_, rfl⟩
  obtain ⟨gm, hgm⟩ : ∃ gm, gm = wh.heap.size := ⟨_, rfl⟩
  have hMlt := M.lt
  rw [← hgm] at hBe hMlt M E P Q Pc Qc hB m1 mf hwh ⊢
  have hgB : gm < B := by omega
  have hBg : B = gm + 1 := hBe
  have ho : OwC B ((wn.setCell ⟨gm, n0, none⟩ (.bool true)).alloc (.cells #[.int .i64 x, .int .i64 y] 35)) (.slice (some ⟨(wn.setCell ⟨gm, n0, none⟩ (.bool true)).heap.size, 0, none⟩) 1 1) [(x, y)] :=
    ⟨⟨_, _, rfl⟩, (Blk.new (wn.setCell ⟨gm, n0, none⟩ (.bool true)) 35 [.int .i64 x, .int .i64 y]).own (by rw [hBe]; exact hMlt) rfl (by decide), fun c hc => by simp at hc; subst hc; exact ⟨⟨by dsimp only; omega, by dsimp only; omega⟩, ⟨by dsimp only; omega, by dsimp only; omega⟩⟩⟩
  rw [show (wn.setCell ⟨gm, n0, none⟩ (.bool true)).heap.size = wn.heap.size by simp] at ho
  have Ho := Lib.hid ho
  have HM0 := Lib.hid (show Blk ((wn.setCell ⟨gm, n0, none⟩ (.bool true)).alloc (.cells #[.int .i64 x, .int .i64 y] 35)) gm 4 (mkB (setL [(x, y)])) by
    have e : setL [(x, y)] = 0 ||| 2 ^ n0 := by rw [HN0.out]; rfl
    rw [e]; exact M.alloc _)
  have HP0 := Lib.hid (P.alloc (.cells #[.int .i64 x, .int .i64 y] 35))
  have HE0 := Lib.hid (E.alloc (.cells #[.int .i64 x, .int .i64 y] 35))
  have hB0 := bl_alloc hB (.cells #[.int .i64 x, .int .i64 y] 35)
  clear ho M P Q E hB Pc hBe hgm mk0
  go_wp2_with fail
  go_loopw [7, 8] (fun v q wr => ∃ L, ∃ k : Nat, k ≤ L.length ∧ q = .int .i64 k ∧ OwC B wr v L ∧ Hid (WfL fr L) ∧ Hid (bfs fr (65 - k) k L = reachL fr (x, y)) ∧ Hid (Blk wr gm 4 (mkB (setL L))) ∧ Hid (Blk wr w.heap.size 31 [.slice A rs.length c]) ∧ Hid (Blk wr (w.heap.size + 1 + 1) 35 []) ∧ Below w.heap.size w wr) (fun _ q _ => 65 - (intOf q).toNat)
  case atStart => exact ⟨[(x, y)], 0, by simp, rfl, Ho.out, Lib.hid (WfL.one Hok.out), Lib.hid rfl, HM0, HP0, HE0, hB0⟩
  case round =>
    obtain ⟨L, k, hk, rfl, own, HW, HR, HM, HP, HQ, hB⟩ := hrel
    clear Ho HM0 HP0 HE0 hB0 Qc m1 mf
    obtain ⟨⟨A5, c5, rfl⟩, _⟩ := id own
    have hLl := HW.out.len
    obtain ⟨m0, hm0⟩ : ∃ m0, m0 = L.length := ⟨_, rfl⟩
    have Hm0 := Lib.hid hm0
    rw [← hm0] at own hk hLl ⊢
    clear hm0
    by_cases hlt2 : k < m0
    · obtain ⟨b0, o0, cx, cy, rfl, hbl0, hv, _, g1, g2, e0, e1⟩ := own.rd.at_ (k := k) (by have := Hm0.out; omega)
      have HLk := Lib.hid hv
      have hcok := HW.out.ok _ (List.mem_of_getElem? hv)
      have hZlo := HQ.out.lt
      have hMlo := HM.out.lt
      obtain ⟨wo, rfl⟩ : ∃ wo : World, wo = wr := ⟨_, rfl⟩
      have HO := Lib.hid own
      have Hvb := Lib.hid own.2.1.lt
      clear own hv
      go_wp2_with fail
      (refine (NeighborsOf_s cx cy _).mono ?_; rintro e wy ⟨v, rfl, o1, hbn⟩; have hSz := bl_sz (bl_trans hB (by go_grown)) hbn; replace hB := bl_trans (bl_trans hB (by go_grown)) hbn; replace HO := Lib.hid (HO.out.bel hbn); replace HM := Lib.hid (HM.out.bel hbn); replace HP := Lib.hid (HP.out.bel hbn); replace HQ := Lib.hid (HQ.out.bel hbn); have hsx := hbn.size; clear hbn)
      obtain ⟨⟨A1, c1, rfl⟩, _⟩ := id o1
      have o2 := Lib.hid (o1.in_ (Nat.le_refl _))
      have hnl := nbrs_len cx cy
      have Hq0 := Lib.hid (show ∀ b, (Value.slice (some ⟨b0, o0, none⟩) m0 c5).ownBlock = some b → b < wo.heap.size ∨ wy.heap.size ≤ b from fun b hb => .inl (Hvb.out b hb).2)
      clear o1
      go_wp2_with fail
      go_loopw [7, 10] (fun v q wr' => ∃ j : Nat, j ≤ (nbrs cx cy).length ∧ q = .int .i64 j ∧ OwC B wr' v (((nbrs cx cy).take j).foldl (addS fr) L) ∧ Hid (∀ b, v.ownBlock = some b → b < wo.heap.size ∨ wy.heap.size ≤ b) ∧ InC wo.heap.size wy.heap.size wr' (.slice A1 (nbrs cx cy).length c1) (nbrs cx cy) ∧ wy.heap.size ≤ wr'.heap.size ∧ Hid (Blk wr' gm 4 (mkB (setL (((nbrs cx cy).take j).foldl (addS fr) L)))) ∧ Hid (Blk wr' w.heap.size 31 [.slice A rs.length c]) ∧ Hid (Blk wr' (w.heap.size + 1 + 1) 35 []) ∧ Below w.heap.size w wr') (fun _ q _ => (nbrs cx cy).length - (intOf q).toNat)
      case atStart => exact ⟨0, by omega, rfl, HO.out, Hq0, o2.out, Nat.le_refl _, HM, HP, HQ, hB⟩
      case round =>
        obtain ⟨j, hj, rfl, own, Hq, hin, hys, HM4, HP4, HQ4, hB'⟩ := hrel
        clear hB HO Hq0 o2 HM HP HQ
        have hB := hB'
        clear hB'
        obtain ⟨M, hM⟩ : ∃ M, M = ((nbrs cx cy).take j).foldl (addS fr) L := ⟨_, rfl⟩
        rw [← hM] at own HM4
        have hMw : WfL fr M := by rw [hM]; exact HW.out.foldS fun d hd => nbrs_ok (List.mem_of_mem_take hd)
        have hMl := hMw.len
        have hML : L.length ≤ M.length := by rw [hM]; exact foldS_len _ _ _
        obtain ⟨⟨A6, c6, rfl⟩, _⟩ := id own
        obtain ⟨n5, hn5⟩ : ∃ n5, n5 = M.length := ⟨_, rfl⟩
        rw [← hn5] at own hMl Hq ⊢
        have Hn5 := Lib.hid hn5
        have hml : M.length ≤ 1048576 := by omega
        clear hn5
        by_cases hlt3 : j < (nbrs cx cy).length
        · obtain ⟨bb, off6, dx, dy, rfl, hbl6, hv, _, ga, gb, r0, r1⟩ := hin.rd.at_ hlt3
          have hdo : cellOk dx dy = true := nbrs_ok (c := (dx, dy)) (List.mem_of_getElem? hv)
          have hnext : ((nbrs cx cy).take (j + 1)).foldl (addS fr) L = addS fr M (dx, dy) := by rw [take_snoc_at hv, List.foldl_append, ← hM]; rfl
          obtain ⟨b6, cap6, rest6, hA6, _⟩ := own.blk' (by intro e; rw [e] at hML; simp at hML; have := Hm0.out; rw [hML] at this; simp at this; omega)
          obtain ⟨n1, hn1⟩ : ∃ n1, n1 = idxN (dx, dy) := ⟨_, rfl⟩
          have hn64 : n1 < 64 := by rw [hn1]; exact idxN_lt hdo
          have HI := Lib.hid (show ∀ w : World, Calls Try.prog 180 #[.agg #[.int .i64 dx, .int .i64 dy]] w fun e w' => e = .returned (.int .i64 (n1 : Nat)) ∧ Below w.heap.size w w' from fun w => by rw [hn1]; exact CellIndex_n dx dy w hdo)
          have hsb : regHas rs dx dy = fr.testBit n1 := by rw [HFR.out, hn1, regSet_bit HREG.out, of_idxN (c := (dx, dy)) hdo]
          have hseen : (setL M).testBit n1 = decide ((dx, dy) ∈ M) := by
            have := setL_has (d := (dx, dy)) hMw.ok hdo
            unfold hasBit at this
            rw [hdo, Bool.true_and] at this
            rw [hn1]; exact this
          have HM5 := Lib.hid hM
          have HMw := Lib.hid hMw
          have Hnext := Lib.hid hnext
          have HN1 := Lib.hid hn1
          have HPc := HP4.out.c1
          have m1 := HM4.out.getB hn64
          have q0 := bq_cell r0
          have q1 := bq_cell r1
          have q2 := bq_cell HPc
          have Hin := Lib.hid hin
          have Ho := Lib.hid own
          have Hb5 := Hq
          clear hin own hv hM hMw hnext hA6 HPc Hq
          cases t1 : fr.testBit n1
          · have HSB := Lib.hid (hsb.trans t1)
            have Hst := Lib.hid (show addS fr M (dx, dy) = M by unfold addS; rw [if_neg (by rw [← hn1, t1]; simp)])
            clear t1 hsb hseen hn1
            go_wp2_with fail
            (refine wp_region_quiet_bel (by kernel_rfl) (by kernel_rfl) ?_; (repeat (first | go_big_quiet_step (first | (go_at_call 101; exact Calls.bel_of ((l03Has_any A c rs dx dy _ h8 (hr'.out.below (bl_trans hB (BelowOf.bel _))) hdo h255.out).mono (fun e w' h => ⟨h.1.trans (ret_bool HSB.out), h.2⟩))) | (go_at_call 180; exact Calls.bel_of (HI.out _))) | quiet_step (first | (go_at_call 101; exact Calls.bel_of ((l03Has_any A c rs dx dy _ h8 (hr'.out.below (bl_trans hB (BelowOf.bel _))) hdo h255.out).mono (fun e w' h => ⟨h.1.trans (ret_bool HSB.out), h.2⟩))) | (go_at_call 180; exact Calls.bel_of (HI.out _))))); refine wpQuiet_nil ?_; intro wq hw0; obtain ⟨⟨_, hbq⟩, hw1⟩ := hw0; subst hw1; try dsimp only)
            go_wp2_with fail
            go_roundw
            case rel => exact ⟨j + 1, by omega, by go_num, by rw [Hnext.out, Hst.out]; exact Ho.out.bel hbq, Hb5, Hin.out.bel hbq, Nat.le_trans hys hbq.size, by rw [Hnext.out, Hst.out]; exact Lib.hid (HM4.out.bel hbq), Lib.hid (HP4.out.bel hbq), Lib.hid (HQ4.out.bel hbq), bl_trans hB hbq⟩
            case measure => simp [intOf]; omega
          · have HSB := Lib.hid (hsb.trans t1)
            cases t2 : (setL M).testBit n1
            · have hnm : (dx, dy) ∉ M := by rw [t2] at hseen; exact of_decide_eq_false hseen.symm
              rw [t2] at m1
              have q3 := bq_cell m1
              have hst : addS fr M (dx, dy) = M ++ [(dx, dy)] := by unfold addS addC; rw [if_pos (by rw [← hn1, t1]), if_neg hnm]
              have Hst := Lib.hid hst
              clear t1 t2 hsb hseen hn1 hnm hst
              go_wp2_with fail
              (refine wp_region_quiet_bel (by kernel_rfl) (by kernel_rfl) ?_; (repeat (first | go_big_quiet_step (first | (go_at_call 101; exact Calls.bel_of ((l03Has_any A c rs dx dy _ h8 (hr'.out.below (bl_trans hB (BelowOf.bel _))) hdo h255.out).mono (fun e w' h => ⟨h.1.trans (ret_bool HSB.out), h.2⟩))) | (go_at_call 180; exact Calls.bel_of (HI.out _))) | quiet_step (first | (go_at_call 101; exact Calls.bel_of ((l03Has_any A c rs dx dy _ h8 (hr'.out.below (bl_trans hB (BelowOf.bel _))) hdo h255.out).mono (fun e w' h => ⟨h.1.trans (ret_bool HSB.out), h.2⟩))) | (go_at_call 180; exact Calls.bel_of (HI.out _))))); refine wpQuiet_nil ?_; intro wq hw0; obtain ⟨⟨_, hbq⟩, hw1⟩ := hw0; subst hw1; try dsimp only)
              replace hB := bl_trans hB hbq
              replace Ho := Lib.hid (Ho.out.bel hbq)
              replace Hin := Lib.hid (Hin.out.bel hbq)
              have hys2 := Nat.le_trans hys hbq.size
              have hba : wo.heap.size ≤ bb := (Hin.out.rng bb rfl).1
              have hbb : bb < wq.heap.size := by have := (Hin.out.rng bb rfl).2; omega
              have Mq := HM4.out.bel hbq
              have Pq := HP4.out.bel hbq
              have Qq := HQ4.out.bel hbq
              have f0 := q0 ⟨wq, hbq⟩
              have f1 := q1 ⟨wq, hbq⟩
              dsimp only at f0 f1
              clear q0 q1 q2 q3 r0 r1 m1
              go_wp2_with fail
              (refine (HI.out _).mono ?_; rintro e wn ⟨rfl, hbn⟩; have hSz := bl_sz (bl_trans hB (by go_grown)) hbn; replace hB := bl_trans (bl_trans hB (by go_grown)) hbn; have hqz := hbn.size; replace Mq := Mq.bel hbn; have m1 := Mq.getB hn64; have mf := Mq.frozen n1; replace Mq := Mq.setB n1; replace Pq := (Pq.bel hbn).farN gm n1 (by omega) (.bool true); replace Qq := (Qq.bel hbn).farN gm n1 (by omega) (.bool true); replace Ho := Lib.hid ((Ho.out.bel hbn).set' (p := ⟨gm, n1, none⟩) hgB (.bool true)); replace Hin := Lib.hid ((Hin.out.bel hbn).set_ (p := ⟨gm, n1, none⟩) hMlo (.bool true)); replace f0 := (World.cell?_setCell_other wn ⟨gm, n1, none⟩ _ (.bool true) (by intro h; injection h with h1; omega)).trans ((hbn.cell (p := ⟨bb, off6 + j * 2, none⟩) hbb).trans f0); replace f1 := (World.cell?_setCell_other wn ⟨gm, n1, none⟩ _ (.bool true) (by intro h; injection h with h1; omega)).trans ((hbn.cell (p := ⟨bb, off6 + j * 2 + 1, none⟩) hbb).trans f1); replace hB := bl_set hB (p := ⟨gm, n1, none⟩) (by show w.heap.size ≤ gm; omega) (.bool true); have hsz9 : (wn.setCell ⟨gm, n1, none⟩ (.bool true)).heap.size = wn.heap.size := (by simp); clear hbn)
              have hsz8 := hB.size
              have hMz := Mq.lt
              have HMset := Lib.hid (show setL M ||| 2 ^ n1 = setL (M ++ [(dx, dy)]) by rw [setL_snoc, HN1.out]; rfl)
              go_wp2_with (at_builtin; refine wpList_atC rfl (.tmp 68) (.tmp 73) rfl B _ M dx dy rfl (by rw [hsz9]; first | done | rfl) Ho.out (by omega) hml ga gb ?_; intro v' w1 ho1 hb1 hg1 hat1 hsz1)
              have hrr := hb1 _ (Below.refl B _)
              go_roundw
              case rel => exact ⟨j + 1, by omega, by go_num, by rw [Hnext.out, Hst.out]; exact ho1, Lib.hid (fun b hb => by
                rcases hat1 with h1 | h1
                · exact Hb5.out b (h1 ▸ hb)
                · rw [h1] at hb; injection hb with hb; right; omega), Hin.out.far hg1 Hb5.out, by omega, by rw [Hnext.out, Hst.out, ← HMset.out]; exact Lib.hid (Mq.below hrr hgB), Lib.hid (Pq.below hrr (by omega)), Lib.hid (Qq.below hrr (by omega)), hB.trans (hrr.mono (by omega))⟩
              case measure => simp [intOf]; omega
            · have hmm : (dx, dy) ∈ M := by rw [t2] at hseen; exact of_decide_eq_true hseen.symm
              rw [t2] at m1
              have q3 := bq_cell m1
              have Hst := Lib.hid (show addS fr M (dx, dy) = M by unfold addS addC; rw [if_pos hmm]; split <;> rfl)
              clear t1 t2 hsb hseen hn1 hmm
              go_wp2_with fail
              (refine wp_region_quiet_bel (by kernel_rfl) (by kernel_rfl) ?_; (repeat (first | go_big_quiet_step (first | (go_at_call 101; exact Calls.bel_of ((l03Has_any A c rs dx dy _ h8 (hr'.out.below (bl_trans hB (BelowOf.bel _))) hdo h255.out).mono (fun e w' h => ⟨h.1.trans (ret_bool HSB.out), h.2⟩))) | (go_at_call 180; exact Calls.bel_of (HI.out _))) | quiet_step (first | (go_at_call 101; exact Calls.bel_of ((l03Has_any A c rs dx dy _ h8 (hr'.out.below (bl_trans hB (BelowOf.bel _))) hdo h255.out).mono (fun e w' h => ⟨h.1.trans (ret_bool HSB.out), h.2⟩))) | (go_at_call 180; exact Calls.bel_of (HI.out _))))); refine wpQuiet_nil ?_; intro wq hw0; obtain ⟨⟨_, hbq⟩, hw1⟩ := hw0; subst hw1; try dsimp only)
              go_wp2_with fail
              go_roundw
              case rel => exact ⟨j + 1, by omega, by go_num, by rw [Hnext.out, Hst.out]; exact Ho.out.bel hbq, Hb5, Hin.out.bel hbq, Nat.le_trans hys hbq.size, by rw [Hnext.out, Hst.out]; exact Lib.hid (HM4.out.bel hbq), Lib.hid (HP4.out.bel hbq), Lib.hid (HQ4.out.bel hbq), bl_trans hB hbq⟩
              case measure => simp [intOf]; omega
        · have hjn : j = (nbrs cx cy).length := by omega
          subst hjn
          rw [List.take_length] at hM
          have hfin : bfs fr (65 - (k + 1)) (k + 1) M = reachL fr (x, y) := by
            rw [← HR.out, hM, ← grow_nbrs fr L (cx, cy), show 65 - k = (65 - (k + 1)) + 1 by omega, bfs_step HLk.out]
          have hkM : k + 1 ≤ M.length := by have := Hm0.out; omega
          have HF := Lib.hid hfin
          have HMw := Lib.hid hMw
          have Ho := Lib.hid own
          clear hM hfin hMw own hin
          go_wp2_with fail
          go_roundw
          case rel => exact ⟨M, k + 1, hkM, by go_num, Ho.out, HMw, HF, HM4, HP4, HQ4, hB⟩
          case measure => simp [intOf]; omega
    · have hRL : L = reachL fr (x, y) := by rw [← HR.out, bfs_end (by have := Hm0.out; omega)]
      obtain ⟨S, hS⟩ : ∃ S, S = setL L := ⟨_, rfl⟩
      have HS := Lib.hid (show pieceC rs (x, y) = cellsBy S.testBit 64 by rw [hS, hRL, HFR.out]; rfl)
      rw [← hS] at HM
      have HO := Lib.hid (Blk.ownC' (B := w.heap.size) (cap := 0) (l := []) (rest := []) HQ.out (by omega) (by simp) (by decide) (by simp) (by simp))
      clear hRL hS own HQ HP HW HR HI0
      go_wp2_with fail
      go_loopw [5, 11] (fun v i wr => ∃ k : Nat, k ≤ 64 ∧ i = .int .i64 k ∧ OwC w.heap.size wr v (cellsBy S.testBit k) ∧ Hid (Blk wr gm 4 (mkB S)) ∧ Below w.heap.size w wr) (fun _ i _ => 64 - (intOf i).toNat)
      case atStart => exact ⟨0, by omega, rfl, HO.out, HM, hB⟩
      case round =>
        obtain ⟨k, hk2, rfl, own, HM', hB'⟩ := hrel
        clear hB HM HO
        have hB := hB'
        have M := HM'.out
        clear hB' HM'
        by_cases hlt : k < 64
        · have hsn := Lib.hid (cellsBy_succ S.testBit k)
          have hlen := cellsBy_len S.testBit k
          have hE := cellOf_i64 k hlt
          have mk := M.getB hlt
          have Ho := Lib.hid own
          clear own
          cases ht : S.testBit k
          · rw [ht] at mk
            have ht' := Lib.hid ht
            clear ht
            go_wp2_with fail
            go_roundw
            case rel => exact ⟨k + 1, by omega, by go_num, by rw [hsn.out, ht'.out, if_neg (by decide), List.append_nil]; exact Ho.out, Lib.hid M, hB⟩
            case measure => simp [intOf]; omega
          · rw [ht] at mk
            have ht' := Lib.hid ht
            clear ht
            go_wp2_with (first | (go_at_call 100; refine (CellAt_s k _ hlt).mono ?_; rintro e wn ⟨rfl, hbn⟩; have hSz := bl_sz (bl_trans hB (by go_grown)) hbn; replace hB := bl_trans (bl_trans hB (by go_grown)) hbn; replace M := M.bel hbn; replace Ho := Lib.hid (Ho.out.bel hbn); have Q := Blk.new wn 35 [.int .i64 (cellOf k).1, .int .i64 (cellOf k).2]; have Qc := Q.c2; replace M := M.alloc (.cells #[.int .i64 (cellOf k).1, .int .i64 (cellOf k).2] 35); replace hB := bl_alloc hB (.cells #[.int .i64 (cellOf k).1, .int .i64 (cellOf k).2] 35); replace Ho := Lib.hid (Ho.out.alloc' (.cells #[.int .i64 (cellOf k).1, .int .i64 (cellOf k).2] 35)); clear hbn) | (at_builtin; refine wpList_atC rfl (.tmp 90) (.tmp 92) rfl w.heap.size _ (cellsBy _ k) (cellOf k).1 (cellOf k).2 rfl (by simp [Act.eval]) Ho.out hB.size (by omega) hE.1 hE.2 ?_; intro v' w1 ho1 hb1 hg1 hat1 hsz1))
            have HM2 := Lib.hid (M.far' hg1 (Ho.out.ne_of M (by decide)))
            go_roundw
            case rel => exact ⟨k + 1, by omega, by go_num, by rw [hsn.out, ht'.out, if_pos rfl]; exact ho1, HM2, hB.trans (hb1 _ (Below.refl _ _))⟩
            case measure => simp [intOf]; omega
        · have hk4 : k = 64 := by omega
          subst hk4
          have Ho := Lib.hid own
          clear own
          go_wp2_with fail
          go_ret
          exact ⟨_, rfl, by rw [HS.out]; exact Ho.out, hB⟩
theorem piece_zero {rs : List Int} {c : Cl} (hc : cellOk c.1 c.2 = true) : ∃ u v, (pieceC rs c)[0]? = some (u, v) ∧ 0 < (pieceC rs c).length := by
  have hm : c ∈ pieceC rs c := by
    unfold pieceC
    rw [mem_cellsBy, setL_bit, decide_eq_true_eq]
    exact ⟨hc, c, reach_self _ _, rfl⟩
  cases hp : pieceC rs c with
  | nil => rw [hp] at hm; cases hm
  | cons d l => exact ⟨d.1, d.2, rfl, by simp⟩
set_option maxRecDepth 100000 in
set_option maxHeartbeats 4000000 in
theorem CountPieces_s (A : Option Addr) (c : Nat) (rs : List Int) (w : World) (hl : rs.length ≤ 1048576) (hr : RdI w A rs) :
    Calls Try.prog 80 #[.agg #[.slice A rs.length c]] w fun e w' => e = .returned (.int .i64 (cntPieces rs : Nat)) ∧ Below w.heap.size w w' := by
  (have hB := Below.refl w.heap.size w; have P := Blk.new w 31 [.slice A rs.length c]; have Pc := P.c1)
  have he := eq_cell
  have hr' := Lib.hid hr
  have hcl := regCells_len rs
  obtain ⟨p, hp⟩ : ∃ p : Cl → Bool, p = fun c => decide ((pieceC rs c)[0]? = some c) := ⟨_, rfl⟩
  have HP := Lib.hid hp
  have HV := Lib.hid (show cntPieces rs = ((regCells rs).filter p).length by rw [hp]; rfl)
  obtain ⟨L, hL⟩ : ∃ L, L = regCells rs := ⟨_, rfl⟩
  have HL := Lib.hid hL
  rw [← hL] at hcl HV
  clear hr hp hL
  go_enter Try.func80, Try.ntmps80
  go_wp2_with (go_at_call 23; refine (CellsOf_s A c rs _ hl (hr'.out.below (bl_trans hB (by go_grown)))).mono ?_; rintro e wx ⟨v, rfl, o1, hbn⟩; have hSz := bl_sz (bl_trans hB (by go_grown)) hbn; replace hB := bl_trans (bl_trans hB (by go_grown)) hbn; replace P := P.bel (bl_trans (by go_grown) hbn); replace Pc := P.c1; obtain ⟨⟨A1, c1, rfl⟩, _⟩ := id o1; rw [← HL.out] at o1 ⊢; have R1 := Lib.hid o1.rd; clear o1; clear hbn)
  go_loopw [3, 5] (fun v i wr => ∃ k : Nat, k ≤ L.length ∧ i = .int .i64 k ∧ v = .int .i64 (((L.take k).filter p).length : Nat) ∧ Below wx.heap.size wx wr) (fun _ i _ => L.length - (intOf i).toNat)
  case atStart => exact ⟨0, by omega, rfl, by simp, Below.refl _ _⟩
  case round =>
    obtain ⟨k, hk, rfl, rfl, hbk⟩ := hrel
    have R2 := Lib.hid (R1.out.below hbk)
    replace hB := bl_trans hB hbk
    replace P := P.bel hbk
    replace Pc := P.c1
    by_cases hlt : k < L.length
    · obtain ⟨b0, o0, x, y, rfl, hbl0, hv, _, g1, g2, e0, e1⟩ := R2.out.at_ (k := k) hlt
      obtain ⟨n, hn⟩ : ∃ n, n = ((L.take k).filter p).length := ⟨_, rfl⟩
      have hn64 : n ≤ 64 := by rw [hn]; exact Nat.le_trans (List.length_filter_le _ _) (by rw [List.length_take]; omega)
      have hnext : ((L.take (k + 1)).filter p).length = n + if p (x, y) then 1 else 0 := by
        rw [take_snoc_at hv, List.filter_append, List.length_append, ← hn]
        cases hpx : p (x, y) <;> simp [hpx]
      have Hnext := Lib.hid hnext
      rw [← hn]
      clear hn hnext
      have hreg : regOk rs = true := by
        cases h : regOk rs with
        | true => rfl
        | false => exfalso; have := HL.out; rw [regCells_none h] at this; rw [this] at hlt; simp at hlt
      have hmem := List.mem_of_getElem? hv
      rw [HL.out, regCells_set hreg, mem_cellsBy] at hmem
      obtain ⟨hok, hbit⟩ := hmem
      obtain ⟨u, v, huv, hlen⟩ := piece_zero (rs := rs) (c := (x, y)) hok
      have hpv : p (x, y) = (u == x && v == y) := by rw [HP.out]; dsimp only; rw [huv, Bool.eq_iff_iff]; simp
      have Hlen := Lib.hid hlen
      have Huv := Lib.hid huv
      have HR := Lib.hid (And.intro hreg (And.intro hok hbit))
      have hkl : (k : Int) < (L.length : Int) := by omega
      obtain ⟨wo, rfl⟩ : ∃ wo : World, wo = wr := ⟨_, rfl⟩
      obtain ⟨bq, hbq⟩ : ∃ bq : Bool, (u == x && v == y) = bq := ⟨_, rfl⟩
      rw [hbq] at hpv
      have Hpv := Lib.hid hpv
      have HBK := Lib.hid hbk
      clear hv huv hlen hpv hreg hok hbit hbk
      go_upto_region 6 with fail
      have hdr : Below wo.heap.size wo wo.drew := by go_grown
      have HX := Lib.hid (hr'.out.below (bl_trans hB hdr))
      go_cut [26] from 14 to 26 (fun s26 wx => s26 = .bool bq ∧ Hid (Below wo.heap.size wo wx))
      case first =>
        go_region_with ((go_at_call 166; refine (PieceOf_any A c rs x y _ hl HX.out HR.out.1 HR.out.2.1 HR.out.2.2).mono ?_; rintro e w2 ⟨v2, rfl, o2, hb2⟩; obtain ⟨⟨A2, c2, rfl⟩, _⟩ := id o2; obtain ⟨b2, f2, u2, t2, rfl, hbl2, huv2, _, _, _, k0, k1⟩ := o2.rd.at_ (k := 0) Hlen.out; rw [Huv.out] at huv2; injection huv2 with huv2; injection huv2 with hu hv; subst hu; subst hv; have k2 : w2.cell? ⟨b2, f2, none⟩ = some (.int .i64 u) := k0; have k3 : w2.cell? ⟨b2, f2 + 1, none⟩ = some (.int .i64 v) := k1; clear k0 k1; have hb3 := bl_trans hdr hb2; have Hb3 := Lib.hid hb3; replace e0 := (hb3.cell hbl0).trans e0; replace e1 := (hb3.cell hbl0).trans e1))
        all_goals (go_wp2_with fail; go_meet; exact ⟨rfl, Hb3⟩)
      case rest =>
        obtain ⟨rfl, Hb3⟩ := hcut
        have hnx : ((L.take (k + 1)).filter p).length = n + if bq then 1 else 0 := by rw [Hnext.out, Hpv.out]
        cases bq
        · go_wp2_with fail
          go_roundw
          case rel => exact ⟨k + 1, by omega, by go_num, by rw [hnx]; rfl, bl_trans HBK.out Hb3.out⟩
          case measure => simp [intOf]; omega
        · go_wp2_with fail
          go_roundw
          case rel => exact ⟨k + 1, by omega, by go_num, by rw [hnx]; go_num, bl_trans HBK.out Hb3.out⟩
          case measure => simp [intOf]; omega
    · obtain rfl : k = L.length := by omega
      rw [List.take_length, ← HV.out]
      go_wp2_with fail
      go_ret
      exact ⟨rfl, hB⟩
end Go.Proofs.Ytdcjhfmkkcakhaa

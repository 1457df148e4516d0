/-
  The moved turns of a shape over a cell (a plain model), and the contracts of CountShape (both): what each returns, as a function of its arguments; nothing that was there is written; no condition.
-/
import Derived.Test.YtdcjhfmkkcakhaaCovM
import Derived.Test.YtdcjhfmkkcakhaaNeut
import Derived.Deep.CutRange
import Derived.Deep.CutBlock
import Derived.Deep.DeepMust
namespace Go.Proofs.Ytdcjhfmkkcakhaa
open Go.ChangeShapes Go.WideShapes Go.ChangeAt Go.RowKit Go.Deep
set_option linter.unusedVariables false

def hdC (own : List Cl) : Cl := (own[0]?).getD (0, 0)
def tS1 (x y : Int) (own : List Cl) : List Nat := if fitsL own (x - (hdC own).1) (y - (hdC own).2) then [setL (moveL own (x - (hdC own).1) (y - (hdC own).2))] else []
def tSk (x y : Int) (trs : List (List Cl)) : List Nat := trs.flatMap (tS1 x y)
def tilesS (trs : List (List Cl)) (q : Nat) : List Nat := tSk (cellOf q).1 (cellOf q).2 trs
theorem tS1_len (x y : Int) (own : List Cl) : (tS1 x y own).length ≤ 1 := by unfold tS1; split <;> simp
theorem tSk_len (x y : Int) (trs : List (List Cl)) : (tSk x y trs).length ≤ trs.length := by
  unfold tSk
  induction trs with
  | nil => simp
  | cons a l ih => have := tS1_len x y a; rw [List.flatMap_cons, List.length_append, List.length_cons]; omega
theorem tSk_snoc (x y : Int) {trs : List (List Cl)} {k : Nat} {own : List Cl} (h : trs[k]? = some own) : tSk x y (trs.take (k + 1)) = tSk x y (trs.take k) ++ tS1 x y own := by
  unfold tSk; rw [take_snoc_at h, List.flatMap_append]; simp
theorem setL_ne {l : List Cl} (h : l ≠ []) : setL l ≠ 0 := by
  intro e
  cases l with
  | nil => exact h rfl
  | cons c l =>
    have := setL_bit (c :: l) (idxN c)
    rw [e] at this
    simp at this
theorem tSk_ne (x y : Int) {trs : List (List Cl)} (h : ∀ own ∈ trs, 1 ≤ own.length) : ∀ o ∈ tSk x y trs, o ≠ 0 := fun o ho => by
  unfold tSk at ho
  obtain ⟨own, hm, h2⟩ := List.mem_flatMap.1 ho
  unfold tS1 at h2
  split at h2
  · simp at h2
    rw [h2]
    refine setL_ne fun e => ?_
    have h1 := congrArg List.length e
    rw [moveL_len, List.length_nil] at h1
    have h2 := h own hm
    omega
  · simp at h2
theorem ret_ub {a b : Int} {c d : Bool} (h1 : a = b) (h2 : c = d) : Ending.returned (.tuple #[.int .u64 a, .bool c]) = .returned (.tuple #[.int .u64 b, .bool d]) := by rw [h1, h2]
/-- turns of a shape, as a list of lists of cells -/
structure Trs (trs : List (List Cl)) : Prop where
  len : trs.length ≤ 8
  str : ∀ own ∈ trs, Strict own
  sz : ∀ own ∈ trs, 1 ≤ own.length ∧ own.length ≤ 5
theorem Trs.of (sh : List Cl) : Trs (turnsR sh) := ⟨turnsR_len sh, fun own h => (turnsR_of h).1, fun own h => by have := turnsR_of h; omega⟩
set_option maxRecDepth 100000 in
set_option maxHeartbeats 2000000 in
theorem tilesS_any (w0 : World) (trs : List (List Cl)) (htr : Trs trs) (T : Nat) (A9 : Option Addr) (M c9 : Nat) (hM : M = trs.length) (hT : Blk w0 T 94 [.slice A9 M c9]) (hr : RdCC w0 A9 trs) (q : Nat) (w : World) (hq : q < 64) (hb0 : Below w0.heap.size w0 w) :
    Calls Try.prog 161 #[.agg #[.int .i64 (cellOf q).1, .int .i64 (cellOf q).2], .pointer (some ⟨T, 0, none⟩)] w fun e w' => ∃ v, e = .returned v ∧ OwU w.heap.size w' v (tilesS trs q) ∧ Below w.heap.size w w' := by
  have ht : tilesS trs q = tSk (cellOf q).1 (cellOf q).2 trs := rfl
  have hrg := cellOk_iff.1 (cellOf_ok q hq)
  obtain ⟨x, hx⟩ : ∃ x, x = (cellOf q).1 := ⟨_, rfl⟩
  obtain ⟨y, hy⟩ : ∃ y, y = (cellOf q).2 := ⟨_, rfl⟩
  rw [← hx, ← hy] at ht hrg ⊢
  have HT := Lib.hid ht
  have HM := Lib.hid hM
  have HTr := Lib.hid htr
  have HRd := Lib.hid (hr.below hb0)
  have hM8 : M ≤ 8 := by have := htr.len; omega
  have hB := bl_alloc (bl_alloc (Below.refl w.heap.size w) (.cells #[.int .i64 x, .int .i64 y] 35)) (.cells #[] 112)
  have P := (Blk.new w 35 [.int .i64 x, .int .i64 y]).alloc (.cells #[] 112)
  have O := Lib.hid (OwU.new_ (B := w.heap.size + 1) (w := w.alloc (.cells #[.int .i64 x, .int .i64 y] 35)) (by simp))
  rw [World.size_alloc] at O
  have HTw := ((hT.bel hb0).alloc (.cells #[.int .i64 x, .int .i64 y] 35)).alloc (.cells #[] 112)
  have HTc := HTw.c1
  clear ht hx hy hM htr hr hT hb0
  go_enter Try.func161, Try.ntmps161
  go_wp2
  clear HTw HTc
  go_loopw [4, 12] (fun v i wr => ∃ k : Nat, k ≤ M ∧ i = .int .i64 k ∧ OwU (w.heap.size + 1) wr v (tSk x y (trs.take k)) ∧ Blk wr w.heap.size 35 [.int .i64 x, .int .i64 y] ∧ Below w.heap.size w wr) (fun _ i _ => M - (intOf i).toNat)
  case atStart => exact ⟨0, by omega, rfl, O.out, P, hB⟩
  case round =>
    obtain ⟨k, hk, rfl, own, P1, hB1⟩ := hrel
    clear P O hB
    by_cases hkM : k < M
    · have dk : decide (k < M) = true := decide_eq_true hkM
      obtain ⟨b7, off7, tr, A7, c7, rfl, hb7, hv7, _, hro, e7⟩ := (HRd.out.below hB1).at_ (k := k) (by have := HM.out; omega)
      have hmem := List.mem_of_getElem? hv7
      have hsz := HTr.out.sz tr hmem
      have hst := HTr.out.str tr hmem
      have hsn := tSk_snoc x y hv7
      obtain ⟨n7, hn7⟩ : ∃ n, n = tr.length := ⟨_, rfl⟩
      rw [← hn7] at e7 hsz
      obtain ⟨b8, off8, hx8, hy8, rfl, hb8, hv8, _, _, _, z0, z1⟩ := hro.at_ (k := 0) (by omega)
      rw [Nat.zero_mul, Nat.add_zero] at z0 z1
      have hok8 := cellOk_iff.1 (hst.ok _ (List.mem_of_getElem? hv8))
      dsimp only at hok8
      obtain ⟨dx, hdx⟩ : ∃ dx, dx = x - hx8 := ⟨_, rfl⟩
      obtain ⟨dy, hdy⟩ : ∃ dy, dy = y - hy8 := ⟨_, rfl⟩
      have hts : tS1 x y tr = if fitsL tr dx dy then [setL (moveL tr dx dy)] else [] := by
        unfold tS1 hdC; rw [hv8, hdx, hdy]; rfl
      have hw0 : IntKind.i64.wrap (x - hx8) = dx := by rw [hdx]; exact IntWalk.i64_in _ (by omega)
      have hw1 : IntKind.i64.wrap (y - hy8) = dy := by rw [hdy]; exact IntWalk.i64_in _ (by omega)
      have hdr : -100 ≤ dx ∧ dx ≤ 100 := by omega
      have her : -100 ≤ dy ∧ dy ≤ 100 := by omega
      have Pc := P1.c2
      have q0 := bq_cell Pc.1
      have q1 := bq_cell Pc.2
      have q2 := bq_cell z0
      have q3 := bq_cell z1
      have HN7 := Lib.hid hn7
      have HST := Lib.hid hst
      have HRO := Lib.hid hro
      have HB1 := Lib.hid hB1
      have HP1 := Lib.hid P1
      have HO1 := Lib.hid own
      have hn71 : n7 ≤ 1048576 := by omega
      have hn0 : (0 : Int) < (n7 : Int) := by omega
      have hll : (tSk x y (trs.take k)).length ≤ 1048576 := by have := tSk_len x y (trs.take k); rw [List.length_take] at this; omega
      have hwz : w.heap.size + 1 ≤ wr.heap.size := P1.lt
      rw [hts] at hsn
      clear hmem hv7 hv8 hst hro hB1 P1 own hn7 hdx hdy hts z0 z1
      cases hf : fitsL tr dx dy
      · have HF := Lib.hid hf
        have HS := Lib.hid (show ((shBits tr dx dy : Nat) : Int) = ((0 : Nat) : Int) by rw [shBits_no hf])
        have HSN := Lib.hid (show tSk x y (trs.take (k + 1)) = tSk x y (trs.take k) by rw [hsn, hf]; simp)
        clear hf hsn Pc
        go_wp2_with fail
        (refine wp_region_quiet_bel (by kernel_rfl) (by kernel_rfl) ?_; (repeat (first | go_big_quiet_step ((go_at_call 91; exact Calls.bel_w (fun W hW => (shifted_any _ n7 c7 tr dx dy W HN7.out hn71 (HRO.out.below hW) HST.out.ok hdr her).mono (fun e w' h => ⟨h.1.trans (ret_ub HS.out HF.out), h.2⟩)))) | quiet_step ((go_at_call 91; exact Calls.bel_w (fun W hW => (shifted_any _ n7 c7 tr dx dy W HN7.out hn71 (HRO.out.below hW) HST.out.ok hdr her).mono (fun e w' h => ⟨h.1.trans (ret_ub HS.out HF.out), h.2⟩)))))); refine wpQuiet_nil ?_; intro wq hw0; obtain ⟨⟨_, hbq⟩, hw1⟩ := hw0; subst hw1; try dsimp only)
        go_wp2_with fail
        go_roundw
        case rel => exact ⟨k + 1, by omega, by go_num, by rw [HSN.out]; exact HO1.out.bel hbq, HP1.out.bel hbq, bl_trans HB1.out hbq⟩
        case measure => simp [intOf]; omega
      · have HF := Lib.hid hf
        obtain ⟨o, ho⟩ : ∃ o, o = setL (moveL tr dx dy) := ⟨_, rfl⟩
        have hol : o < 18446744073709551616 := by rw [ho]; exact setL_lt (fitsL_iff.1 hf)
        have HS := Lib.hid (show ((shBits tr dx dy : Nat) : Int) = (o : Int) by rw [shBits_yes hf, ho])
        have HSN := Lib.hid (show tSk x y (trs.take (k + 1)) = tSk x y (trs.take k) ++ [o] by rw [hsn, hf, ho]; simp)
        clear hf hsn ho Pc
        go_wp2_with fail
        (refine wp_region_quiet_bel (by kernel_rfl) (by kernel_rfl) ?_; (repeat (first | go_big_quiet_step ((go_at_call 91; exact Calls.bel_w (fun W hW => (shifted_any _ n7 c7 tr dx dy W HN7.out hn71 (HRO.out.below hW) HST.out.ok hdr her).mono (fun e w' h => ⟨h.1.trans (ret_ub HS.out HF.out), h.2⟩)))) | quiet_step ((go_at_call 91; exact Calls.bel_w (fun W hW => (shifted_any _ n7 c7 tr dx dy W HN7.out hn71 (HRO.out.below hW) HST.out.ok hdr her).mono (fun e w' h => ⟨h.1.trans (ret_ub HS.out HF.out), h.2⟩)))))); refine wpQuiet_nil ?_; intro wq hw0; obtain ⟨⟨_, hbq⟩, hw1⟩ := hw0; subst hw1; try dsimp only)
        have HO2 := Lib.hid (HO1.out.bel hbq)
        have HP2 := Lib.hid (HP1.out.bel hbq)
        have HB2 := Lib.hid (bl_trans HB1.out hbq)
        have hqz : w.heap.size + 1 ≤ wq.heap.size := by have := hbq.size; omega
        clear q0 q1 q2 q3 hbq
        go_wp2_with (at_builtin; refine wpList_appU rfl (.tmp 36) (.tmp 38) rfl (w.heap.size + 1) _ (tSk x y (trs.take k)) o rfl rfl HO2.out hqz hll hol ?_; intro v1 w1 o1 b1 g1; go_must (have P4 := Lib.hid (HP2.out.below (b1 _ (Below.refl _ _)) (Nat.lt_succ_self _)); have O4 := Lib.hid o1; have HB4 := Lib.hid (HB2.out.trans ((b1 _ (Below.refl _ _)).mono (Nat.le_succ _))); clear o1 b1 g1))
        go_roundw
        case rel => exact ⟨k + 1, by omega, by go_num, by rw [HSN.out]; exact O4.out, P4.out, HB4.out⟩
        case measure => simp [intOf]; omega
    · obtain rfl : k = M := by omega
      rw [List.take_of_length_le (by have := HM.out; omega)] at own
      go_wp2_with fail
      go_ret
      exact ⟨_, rfl, by rw [HT.out]; exact own.mono (Nat.le_succ _), hB1⟩
theorem tilesS_ok (w0 : World) (trs : List (List Cl)) (htr : Trs trs) (T : Nat) (A9 : Option Addr) (M c9 : Nat) (hM : M = trs.length) (hT : Blk w0 T 94 [.slice A9 M c9]) (hr : RdCC w0 A9 trs) : TilesOk 161 #[.pointer (some ⟨T, 0, none⟩)] (tilesS trs) w0 :=
  ⟨enters_ Try.func161 (by kernel_rfl) rfl, fun i w hi hb => tilesS_any w0 trs htr T A9 M c9 hM hT hr i w hi hb, fun i _ => ⟨by have := tSk_len (cellOf i).1 (cellOf i).2 trs; have := htr.len; unfold tilesS; omega, tSk_ne _ _ fun own h => (htr.sz own h).1⟩⟩
def countShape (rs : List Int) (sh : List Cl) : Int := if regOk rs && shapeOk sh && decide ((regCells rs).length ≤ 20) then wrap64 (covs (tilesS (turnsR sh)) 64 (regSet rs)) else 0
theorem countShape_no1 {rs : List Int} (sh : List Cl) (h : regOk rs = false) : countShape rs sh = 0 := by simp [countShape, h]
theorem countShape_no2 (rs : List Int) {sh : List Cl} (h : shapeOk sh = false) : countShape rs sh = 0 := by simp [countShape, h]
theorem countShape_no3 {rs : List Int} (sh : List Cl) (h : ¬ (regCells rs).length ≤ 20) : countShape rs sh = 0 := by simp [countShape, h]
theorem countShape_yes {rs : List Int} {sh : List Cl} (h1 : regOk rs = true) (h2 : shapeOk sh = true) (h : (regCells rs).length ≤ 20) : countShape rs sh = wrap64 (covs (tilesS (turnsR sh)) 64 (regSet rs)) := by simp [countShape, h, h1, h2]
set_option maxHeartbeats 2000000 in
theorem CountShape_i (A : Option Addr) (c : Nat) (rs : List Int) (B : Option Addr) (N d : Nat) (sh : List Cl) (w : World) (hl : rs.length ≤ 1048576) (hr : RdI w A rs) (hN : N = sh.length) (hl2 : N ≤ 1048576) (hs : RdC w B sh) :
    Calls Try.prog 76 #[.agg #[.slice A rs.length c], .slice B N d] w fun e w' => e = .returned (.int .i64 (countShape rs sh)) ∧ Below w.heap.size w w' := by
  (have hB := Below.refl w.heap.size w; have P := Blk.new w 31 [.slice A rs.length c]; have Pc := P.c1)
  have hr' := Lib.hid hr
  have hs' := Lib.hid hs
  have HN := Lib.hid hN
  clear hr hs hN
  cases h : regOk rs
  · have H := Lib.hid (countShape_no1 sh h)
    have H1 := Lib.hid h
    clear h
    go_enter Try.func76, Try.ntmps76
    go_wp2_with (go_at_call 98; refine (RegionOk_i A c rs _ hl (hr'.out.below (bl_trans hB (by go_grown)))).mono ?_; rintro e wn ⟨rfl, hbn⟩; have hSz := bl_sz (bl_trans hB (by go_grown)) hbn; replace hB := bl_trans (bl_trans hB (by go_grown)) hbn; replace P := P.bel (bl_trans (by go_grown) hbn); replace Pc := P.c1; rw [H1.out]; clear hbn)
    go_ret
    exact ⟨ret_int H.out.symm, (by first | (go_grown; done) | exact bl_trans hB (by go_grown))⟩
  · have H1 := Lib.hid h
    have hRl := regSet_lt h
    clear h
    cases h2 : shapeOk sh
    · have H := Lib.hid (countShape_no2 rs h2)
      have H2 := Lib.hid h2
      clear h2
      go_enter Try.func76, Try.ntmps76
      go_wp2_with (first | (go_at_call 98; refine (RegionOk_i A c rs _ hl (hr'.out.below (bl_trans hB (by go_grown)))).mono ?_; rintro e wn ⟨rfl, hbn⟩; have hSz := bl_sz (bl_trans hB (by go_grown)) hbn; replace hB := bl_trans (bl_trans hB (by go_grown)) hbn; replace P := P.bel (bl_trans (by go_grown) hbn); replace Pc := P.c1; rw [H1.out]; clear hbn) | (go_at_call 71; refine (ShapeOk_i B N d sh _ HN.out hl2 (hs'.out.below (bl_trans hB (by go_grown)))).mono ?_; rintro e wn ⟨rfl, hbn⟩; have hSz := bl_sz (bl_trans hB (by go_grown)) hbn; replace hB := bl_trans (bl_trans hB (by go_grown)) hbn; replace P := P.bel (bl_trans (by go_grown) hbn); replace Pc := P.c1; rw [H2.out]; clear hbn))
      go_ret
      exact ⟨ret_int H.out.symm, (by first | (go_grown; done) | exact bl_trans hB (by go_grown))⟩
    · have H2 := Lib.hid h2
      have hcl := regCells_len rs
      obtain ⟨L, hL⟩ : ∃ L, L = (regCells rs).length := ⟨_, rfl⟩
      have HL := Lib.hid hL
      rw [← hL] at hcl
      clear h2
      by_cases h20 : L ≤ 20
      · have H := Lib.hid (countShape_yes H1.out H2.out (by rw [← hL]; exact h20))
        have d1 : decide ((20 : Int) < (L : Int)) = false := decide_eq_false (by omega)
        obtain ⟨M, hM⟩ : ∃ M, M = (turnsR sh).length := ⟨_, rfl⟩
        have HM := Lib.hid hM
        clear hL hM
        go_enter Try.func76, Try.ntmps76
        go_wp2_with (first | (go_at_call 98; refine (RegionOk_i A c rs _ hl (hr'.out.below (bl_trans hB (by go_grown)))).mono ?_; rintro e wn ⟨rfl, hbn⟩; have hSz := bl_sz (bl_trans hB (by go_grown)) hbn; replace hB := bl_trans (bl_trans hB (by go_grown)) hbn; replace P := P.bel (bl_trans (by go_grown) hbn); replace Pc := P.c1; rw [H1.out]; clear hbn) | (go_at_call 71; refine (ShapeOk_i B N d sh _ HN.out hl2 (hs'.out.below (bl_trans hB (by go_grown)))).mono ?_; rintro e wn ⟨rfl, hbn⟩; have hSz := bl_sz (bl_trans hB (by go_grown)) hbn; replace hB := bl_trans (bl_trans hB (by go_grown)) hbn; replace P := P.bel (bl_trans (by go_grown) hbn); replace Pc := P.c1; rw [H2.out]; clear hbn) | (go_at_call 123; refine (CountCells_i A c rs _ hl (hr'.out.below (bl_trans hB (by go_grown)))).mono ?_; rintro e wn ⟨rfl, hbn⟩; have hSz := bl_sz (bl_trans hB (by go_grown)) hbn; replace hB := bl_trans (bl_trans hB (by go_grown)) hbn; replace P := P.bel (bl_trans (by go_grown) hbn); replace Pc := P.c1; rw [← HL.out]; clear hbn) | (go_at_call 70; refine (TurnsOfShape_i B N d sh _ HN.out hl2 (hs'.out.below (bl_trans hB (by go_grown)))).mono ?_; rintro e wt ⟨v9, rfl, o9, hbn⟩; have hSz := bl_sz (bl_trans hB (by go_grown)) hbn; replace hB := bl_trans (bl_trans hB (by go_grown)) hbn; replace P := P.bel (bl_trans (by go_grown) hbn); replace Pc := P.c1; obtain ⟨A9, c9, rfl⟩ := o9.form; rw [← HM.out] at o9 ⊢; have RT := Lib.hid (InCC.rd o9); clear o9; have T0 := Blk.new wt 94 [.slice A9 M c9]; replace P := P.alloc (.cells #[.slice A9 M c9] 94); replace Pc := P.c1; clear hbn) | (go_at_call 121; refine (rset_any A c rs _ H1.out (hr'.out.below (bl_trans hB (by go_grown)))).mono ?_; rintro e wz ⟨rfl, hbn⟩; have hSz := bl_sz (bl_trans hB (by go_grown)) hbn; replace hB := bl_trans (bl_trans hB (by go_grown)) hbn; replace P := P.bel (bl_trans (by go_grown) hbn); replace Pc := P.c1; replace T0 := T0.bel (bl_trans (by go_grown) hbn); replace RT := Lib.hid (RT.out.below (bl_trans (by go_grown) hbn)); clear hbn) | (go_at_call 124; refine (coverings_any 161 #[.pointer (some ⟨wt.heap.size, 0, none⟩)] (tilesS (turnsR sh)) wz (tilesS_ok wz (turnsR sh) (Trs.of sh) wt.heap.size A9 M c9 HM.out T0 RT.out) 64 (regSet rs) _ (by go_grown) hRl (card_le _)).mono ?_; rintro e wn ⟨rfl, hbn⟩; have hSz := bl_sz (bl_trans hB (by go_grown)) hbn; replace hB := bl_trans (bl_trans hB (by go_grown)) hbn; replace P := P.bel (bl_trans (by go_grown) hbn); replace Pc := P.c1; clear hbn))
        go_ret
        exact ⟨ret_int H.out.symm, (by first | (go_grown; done) | exact bl_trans hB (by go_grown))⟩
      · have H := Lib.hid (countShape_no3 sh (by rw [← hL]; exact h20))
        have d1 : decide ((20 : Int) < (L : Int)) = true := decide_eq_true (by omega)
        clear hL
        go_enter Try.func76, Try.ntmps76
        go_wp2_with (first | (go_at_call 98; refine (RegionOk_i A c rs _ hl (hr'.out.below (bl_trans hB (by go_grown)))).mono ?_; rintro e wn ⟨rfl, hbn⟩; have hSz := bl_sz (bl_trans hB (by go_grown)) hbn; replace hB := bl_trans (bl_trans hB (by go_grown)) hbn; replace P := P.bel (bl_trans (by go_grown) hbn); replace Pc := P.c1; rw [H1.out]; clear hbn) | (go_at_call 71; refine (ShapeOk_i B N d sh _ HN.out hl2 (hs'.out.below (bl_trans hB (by go_grown)))).mono ?_; rintro e wn ⟨rfl, hbn⟩; have hSz := bl_sz (bl_trans hB (by go_grown)) hbn; replace hB := bl_trans (bl_trans hB (by go_grown)) hbn; replace P := P.bel (bl_trans (by go_grown) hbn); replace Pc := P.c1; rw [H2.out]; clear hbn) | (go_at_call 123; refine (CountCells_i A c rs _ hl (hr'.out.below (bl_trans hB (by go_grown)))).mono ?_; rintro e wn ⟨rfl, hbn⟩; have hSz := bl_sz (bl_trans hB (by go_grown)) hbn; replace hB := bl_trans (bl_trans hB (by go_grown)) hbn; replace P := P.bel (bl_trans (by go_grown) hbn); replace Pc := P.c1; rw [← HL.out]; clear hbn))
        go_ret
        exact ⟨ret_int H.out.symm, (by first | (go_grown; done) | exact bl_trans hB (by go_grown))⟩
def gdB (s : Nat) (ml : List Cl) : Bool := ml.all fun c => cellOk c.1 c.2 && s.testBit (idxN c)
theorem gdB_no {s j : Nat} {ml : List Cl} {c : Cl} (h : ml[j]? = some c) (hc : cellOk c.1 c.2 = false ∨ s.testBit (idxN c) = false) : gdB s ml = false := by
  unfold gdB
  rw [List.all_eq_false]
  refine ⟨c, List.mem_of_getElem? h, ?_⟩
  rcases hc with hc | hc <;> simp [hc]
theorem gdB_iff {s : Nat} {ml : List Cl} : gdB s ml = true ↔ ∀ c ∈ ml, cellOk c.1 c.2 = true ∧ s.testBit (idxN c) = true := by
  unfold gdB
  rw [List.all_eq_true]
  simp only [Bool.and_eq_true]
theorem covSum_tS1 (G : Nat → Int) (s : Nat) (x y : Int) (tr : List Cl) {dx dy : Int} (hdx : dx = x - (hdC tr).1) (hdy : dy = y - (hdC tr).2) : covSum G s (tS1 x y tr) = if gdB s (moveL tr dx dy) then G (setL (moveL tr dx dy)) else 0 := by
  unfold tS1
  rw [← hdx, ← hdy]
  cases hf : fitsL tr dx dy
  · rw [if_neg (by simp), covSum_nil, if_neg]
    intro hg
    rw [gdB_iff] at hg
    rw [fitsL_iff.2 fun c hc => (hg c hc).1] at hf
    simp at hf
  · rw [if_pos rfl, covSum_one, ← all_sub]
    have : gdB s (moveL tr dx dy) = (moveL tr dx dy).all fun c => s.testBit (idxN c) := by
      rw [Bool.eq_iff_iff, gdB_iff, List.all_eq_true]
      exact ⟨fun h c hc => (h c hc).2, fun h c hc => ⟨fitsL_iff.1 hf c hc, h c hc⟩⟩
    rw [this]
set_option maxRecDepth 100000 in
set_option maxHeartbeats 4000000 in
theorem l29Count_any (w0 : World) (g : Nat) (A : Option Addr) (c : Nat) (rs : List Int) (hreg : regOk rs = true) (hr : ∀ W, Btw g (g + 1) w0 W → RdI W A rs) (B : Option Addr) (N d : Nat) (cs : List Cl) (hcs : cs = regCells rs) (hN : N = cs.length) (hs : ∀ W, Btw g (g + 1) w0 W → RdC W B cs)
    (C : Option Addr) (M e0 : Nat) (trs : List (List Cl)) (htr : Trs trs) (hM : M = trs.length) (ht : ∀ W, Btw g (g + 1) w0 W → RdCC W C trs) :
    ∀ (f U : Nat) (w : World), Btw g (g + 1) w0 w → Blk w g 4 (mkB U) → U < 18446744073709551616 → card (bdiff (regSet rs) U) ≤ f →
    Calls Try.prog 96 #[.agg #[.slice A rs.length c], .slice B N d, .slice C M e0, .slice (some ⟨g, 0, none⟩) 64 64] w fun e w' => e = .returned (.int .i64 (wrap64 (covs (tilesS trs) f (bdiff (regSet rs) U)))) ∧ Below w.heap.size w w' := by
  have hRl := regSet_lt hreg
  have hcs2 : cs = cellsBy (regSet rs).testBit 64 := by rw [hcs, regCells_set hreg]
  have hN64 : N ≤ 64 := by rw [hN, hcs]; exact regCells_len rs
  have hok : ∀ q ∈ cs, cellOk q.1 q.2 = true := fun q hq => by rw [hcs2] at hq; exact (mem_cellsBy.1 hq).1
  have h8 : rs.length ≤ 1048576 := by have := (regOk_iff.1 hreg).1; omega
  have hM8 : M ≤ 8 := by have := htr.len; omega
  have HR := Lib.hid hr
  have HS := Lib.hid hs
  have HTR := Lib.hid ht
  have HTr := Lib.hid htr
  have HM := Lib.hid hM
  have HN := Lib.hid hN
  have HCS := Lib.hid hcs2
  have HOK := Lib.hid hok
  have HREG := Lib.hid hreg
  obtain ⟨R, hR⟩ : ∃ R, R = regSet rs := ⟨_, rfl⟩
  rw [← hR] at hRl HCS ⊢
  have HRR := Lib.hid hR
  clear hr hs hN hcs hcs2 hok hreg hR ht htr hM
  intro f
  induction f with
  | zero =>
    intro U w hb0 hU hUl hcd
    have hs0 : bdiff R U = 0 := (card_zero (bdiff_lt hRl)).1 (by omega)
    have HS0 := Lib.hid hs0
    have hB := bl_alloc (Below.refl w.heap.size w) (.cells #[.slice A rs.length c] 31)
    have HB0 := Lib.hid hb0
    have HUB := Lib.hid hU
    clear hb0 hU hs0 hcd
    have hall : ∀ j < N, ∀ q, cs[j]? = some q → U.testBit (idxN q) = true := fun j hj q hq => by
      have hm := List.mem_of_getElem? hq
      rw [HCS.out, mem_cellsBy] at hm
      have h1 : (bdiff R U).testBit (idxN q) = false := by rw [HS0.out]; simp
      rw [bdiff_bit hRl hUl, hm.2] at h1
      simpa using h1
    have HALL := Lib.hid hall
    clear hall
    go_enter Try.func96, Try.ntmps96
    go_wp2_with fail
    go_loopw [9] (fun q wr => ∃ a : Nat, a ≤ N ∧ q = .int .i64 a ∧ Below w.heap.size w wr) (fun q _ => N - (intOf q).toNat)
    case atStart => exact ⟨0, by omega, rfl, hB⟩
    case round =>
      obtain ⟨a, ha, rfl, hB1⟩ := hrel
      clear hB
      have hB := hB1
      clear hB1
      by_cases haN : a < N
      · obtain ⟨b, off, x, y, rfl, hbl, hv, _, _, _, k0, k1⟩ := (HS.out _ (HB0.out.bel hB)).at_ (k := a) (by have := HN.out; omega)
        have hxy := HOK.out _ (List.mem_of_getElem? hv)
        obtain ⟨i, hi⟩ : ∃ i, i = (y * 8 + x).toNat := ⟨_, rfl⟩
        have hi64 : i < 64 := by have := cellOk_iff.1 hxy; omega
        have HI := Lib.hid hi.symm
        have HU := Lib.hid (show U.testBit i = true by rw [hi]; exact HALL.out a haN _ hv)
        have UB1 := HUB.out.bel hB
        clear hv hi
        go_wp2_with (go_at_call 180; refine (CellIndex_n x y _ hxy).mono ?_; rintro e wn ⟨rfl, hbn⟩; have hSz := bl_sz (bl_trans hB (by go_grown)) hbn; replace hB := bl_trans (bl_trans hB (by go_grown)) hbn; rw [HI.out]; replace UB1 := UB1.bel (bl_trans (by go_grown) hbn); have hcu := UB1.getB hi64; rw [HU.out] at hcu; clear hbn)
        go_roundw
        case rel => exact ⟨a + 1, by omega, by go_num, hB⟩
        case measure => simp [intOf]; omega
      · obtain rfl : a = N := by omega
        go_wp2_with fail
        go_ret
        exact ⟨ret_int (by rw [HS0.out, covs_zero]; exact (IntWalk.wrap64_in 1 (by omega)).symm), hB⟩
  | succ f ih =>
    intro U w hb0 hU hUl hcd
    obtain ⟨s, hs⟩ : ∃ s, s = bdiff R U := ⟨_, rfl⟩
    rw [← hs] at hcd ⊢
    have hsl : s < 18446744073709551616 := by rw [hs]; exact bdiff_lt hRl
    have HSD := Lib.hid hs
    have hB := bl_alloc (Below.refl w.heap.size w) (.cells #[.slice A rs.length c] 31)
    have P := Blk.new w 31 [.slice A rs.length c]
    have HB0 := Lib.hid hb0
    have HCD := Lib.hid hcd
    have HUB := Lib.hid hU
    have Ih := Lib.hid ih
    have hgw := hU.lt
    clear ih hb0 hcd hU hs
    go_enter Try.func96, Try.ntmps96
    go_upto_block 0 with fail
    go_cut [9] from 19 to 34 (fun q wr => ∃ a : Nat, a ≤ N ∧ q = .int .i64 a ∧ Hid (∀ j < a, ∀ q, cs[j]? = some q → U.testBit (idxN q) = true) ∧ Hid (∀ q, cs[a]? = some q → U.testBit (idxN q) = false) ∧ Blk wr w.heap.size 31 [.slice A rs.length c] ∧ Below w.heap.size w wr)
    case first =>
      go_wp2_with fail
      go_loopw [9] (fun q wr => ∃ a : Nat, a ≤ N ∧ q = .int .i64 a ∧ Hid (∀ j < a, ∀ q, cs[j]? = some q → U.testBit (idxN q) = true) ∧ Blk wr w.heap.size 31 [.slice A rs.length c] ∧ Below w.heap.size w wr) (fun q _ => N - (intOf q).toNat)
      case atStart => exact ⟨0, by omega, rfl, Lib.hid (fun j hj => absurd hj (by omega)), P, hB⟩
      case round =>
        obtain ⟨a, ha, rfl, HA, P1, hB1⟩ := hrel
        clear hB P
        have hB := hB1
        have P := P1
        clear hB1 P1
        by_cases haN : a < N
        · obtain ⟨b, off, x, y, rfl, hbl, hv, _, _, _, k0, k1⟩ := (HS.out _ (HB0.out.bel hB)).at_ (k := a) (by have := HN.out; omega)
          have hxy := HOK.out _ (List.mem_of_getElem? hv)
          obtain ⟨i, hi⟩ : ∃ i, i = (y * 8 + x).toNat := ⟨_, rfl⟩
          have hi64 : i < 64 := by have := cellOk_iff.1 hxy; omega
          have HI := Lib.hid hi.symm
          have HII := Lib.hid (show idxN (x, y) = i from hi.symm)
          have HV := Lib.hid hv
          have UB1 := HUB.out.bel hB
          clear hv hi
          cases hu : U.testBit i
          · have HU := Lib.hid hu
            clear hu
            go_wp2_with (go_at_call 180; refine (CellIndex_n x y _ hxy).mono ?_; rintro e wn ⟨rfl, hbn⟩; have hSz := bl_sz (bl_trans hB (by go_grown)) hbn; replace hB := bl_trans (bl_trans hB (by go_grown)) hbn; replace P := P.bel (bl_trans (by go_grown) hbn); replace Pc := P.c1; rw [HI.out]; replace UB1 := UB1.bel (bl_trans (by go_grown) hbn); have hcu := UB1.getB hi64; rw [HU.out] at hcu; clear hbn)
            go_meet
            exact ⟨a, by omega, rfl, HA, Lib.hid (fun q hq => by rw [HV.out] at hq; injection hq with hq; rw [← hq, HII.out]; exact HU.out), P, hB⟩
          · have HU := Lib.hid hu
            have HA2 := Lib.hid (all_snoc_lt' HA.out (q := a) (fun q hq => by rw [HV.out] at hq; injection hq with hq; rw [← hq, HII.out]; exact hu))
            clear hu
            go_wp2_with (go_at_call 180; refine (CellIndex_n x y _ hxy).mono ?_; rintro e wn ⟨rfl, hbn⟩; have hSz := bl_sz (bl_trans hB (by go_grown)) hbn; replace hB := bl_trans (bl_trans hB (by go_grown)) hbn; replace P := P.bel (bl_trans (by go_grown) hbn); replace Pc := P.c1; rw [HI.out]; replace UB1 := UB1.bel (bl_trans (by go_grown) hbn); have hcu := UB1.getB hi64; rw [HU.out] at hcu; clear hbn)
            go_roundw
            case rel => exact ⟨a + 1, by omega, by go_num, HA2, P, hB⟩
            case measure => simp [intOf]; omega
        · obtain rfl : a = N := by omega
          go_wp2_with fail
          go_meet
          exact ⟨a, by omega, rfl, HA, Lib.hid (fun q hq => by have := (List.getElem?_eq_some_iff.1 hq).1; have := HN.out; omega), P, hB⟩
    case rest =>
      obtain ⟨a, ha, rfl, HA1, HA2, P1, hB1⟩ := hcut
      clear hB P
      have hff := first_free hRl hUl HCS.out HA1.out
      rw [← HSD.out] at hff
      by_cases haN : a = N
      · have hs0 := Lib.hid (hff.1 (by rw [haN]; exact HN.out))
        have e0 : ((a : Int) == (N : Int)) = true := by simp [haN]
        clear hff haN
        go_wp2_with fail
        go_ret
        exact ⟨ret_int (by rw [hs0.out, covs_zero]; exact (IntWalk.wrap64_in 1 (by omega)).symm), hB1⟩
      · have e1 : ((a : Int) == (N : Int)) = false := by simp; omega
        have haN2 : a < N := by omega
        obtain ⟨b, off, x, y, rfl, hbl, hv, _, _, _, k0, k1⟩ := (HS.out _ (HB0.out.bel hB1)).at_ (k := a) (by have := HN.out; omega)
        obtain ⟨hxy2, hs0⟩ := hff.2 _ hv (HA2.out _ hv)
        have hxy := HOK.out _ (List.mem_of_getElem? hv)
        have hrng := cellOk_iff.1 hxy
        obtain ⟨G, hG⟩ : ∃ G : Nat → Int, G = fun own => covs (tilesS trs) f (bdiff s own) := ⟨_, rfl⟩
        have HG := Lib.hid hG
        have HCV := Lib.hid (show wrap64 (covs (tilesS trs) (f + 1) s) = wrap64 (covSum G s (tSk x y trs)) by
          rw [covs_succ _ _ hs0, hG]
          unfold tilesS
          rw [← hxy2])
        have HXY := Lib.hid hxy
        have HBS := Lib.hid hB1
        have HPS := Lib.hid P1
        have HUS := Lib.hid (HUB.out.bel hB1)
        have HWS := Lib.hid (HB0.out.bel hB1)
        have K0 := Lib.hid k0
        have K1 := Lib.hid k1
        have hbz := hB1.size
        obtain ⟨wS, rfl⟩ : ∃ wS : World, wS = wc := ⟨_, rfl⟩
        clear hff haN hv hxy2 hs0 hG hB1 P1 k0 k1 hxy
        go_wp2_with fail
        go_loopw [10, 11] (fun n q wr => ∃ t : Nat, t ≤ M ∧ q = .int .i64 t ∧ n = .int .i64 (wrap64 (covSum G s (tSk x y (trs.take t)))) ∧ Below wS.heap.size wS wr) (fun _ q _ => M - (intOf q).toNat)
        case atStart => exact ⟨0, by omega, rfl, by rw [List.take_zero, show tSk x y [] = [] from rfl, covSum_nil, IntWalk.wrap64_in 0 (by omega)], Below.refl _ _⟩
        case round =>
          obtain ⟨t, htM, rfl, rfl, hBt⟩ := hrel
          by_cases htM2 : t < M
          · have dt : decide (t < M) = true := decide_eq_true htM2
            obtain ⟨b7, off7, tr, A7, c7, rfl, hb7, hv7, _, hro, e7⟩ := (HTR.out _ (HWS.out.bel hBt)).at_ (k := t) (by have := HM.out; omega)
            have hmem := List.mem_of_getElem? hv7
            have hsz := HTr.out.sz tr hmem
            have hst := HTr.out.str tr hmem
            have hsn : covSum G s (tSk x y (trs.take (t + 1))) = covSum G s (tSk x y (trs.take t)) + covSum G s (tS1 x y tr) := by rw [tSk_snoc x y hv7, covSum_app]
            obtain ⟨n7, hn7⟩ : ∃ n, n = tr.length := ⟨_, rfl⟩
            rw [← hn7] at e7 hsz
            obtain ⟨b8, off8, hx8, hy8, rfl, hb8, hv8, _, _, _, z0, z1⟩ := hro.at_ (k := 0) (by omega)
            rw [Nat.zero_mul, Nat.add_zero] at z0 z1
            have hok8 := cellOk_iff.1 (hst.ok _ (List.mem_of_getElem? hv8))
            dsimp only at hok8
            obtain ⟨dx, hdx⟩ : ∃ dx, dx = x - hx8 := ⟨_, rfl⟩
            obtain ⟨dy, hdy⟩ : ∃ dy, dy = y - hy8 := ⟨_, rfl⟩
            have hcv := covSum_tS1 G s x y tr (dx := dx) (dy := dy) (by unfold hdC; rw [hv8, hdx]; rfl) (by unfold hdC; rw [hv8, hdy]; rfl)
            obtain ⟨ml, hml⟩ : ∃ ml, ml = moveL tr dx dy := ⟨_, rfl⟩
            have hmll : ml.length = n7 := by rw [hml, moveL_len, ← hn7]
            rw [← hml] at hcv
            obtain ⟨n, hn⟩ : ∃ n, n = wrap64 (covSum G s (tSk x y (trs.take t))) := ⟨_, rfl⟩
            rw [hcv] at hsn
            rw [← hn]
            have hw0 : IntKind.i64.wrap (x - hx8) = dx := by rw [hdx]; exact IntWalk.i64_in _ (by omega)
            have hw1 : IntKind.i64.wrap (y - hy8) = dy := by rw [hdy]; exact IntWalk.i64_in _ (by omega)
            have hdr : -7 ≤ dx ∧ dx ≤ 7 := by omega
            have her : -7 ≤ dy ∧ dy ≤ 7 := by omega
            have hn0 : (0 : Int) < (n7 : Int) := by omega
            have ha0 : (0 : Int) ≤ (a : Int) := by omega
            have ha1 : (a : Int) < (N : Int) := by omega
            have ht0 : (0 : Int) ≤ (t : Int) := by omega
            have ht1 : (t : Int) < (M : Int) := by omega
            have y0 := (hBt.cell (p := ⟨b, off + a * 2, none⟩) hbl).trans K0.out
            have y1 := (hBt.cell (p := ⟨b, off + a * 2 + 1, none⟩) hbl).trans K1.out
            have q0 := bq_cell y0
            have q1 := bq_cell y1
            have q2 := bq_cell z0
            have q3 := bq_cell z1
            have q4 := bq_cell e7
            have Y1 := Lib.hid y1
            have Z1 := Lib.hid z1
            have E7 := Lib.hid e7
            have hbl2 : b < wr.heap.size := by have := hBt.size; omega
            have HSN := Lib.hid hsn
            have HNN := Lib.hid hn
            have HN7 := Lib.hid hn7
            have HST := Lib.hid hst
            have HRO := Lib.hid hro
            have HBT := Lib.hid hBt
            have HML := Lib.hid hml
            have HMLL := Lib.hid hmll
            clear hmem hv7 hv8 hst hro hBt hsn hn hn7 hdx hdy hcv hml hmll z0 z1 y0 y1 e7
            go_wp2_with fail
            (refine wp_region_quiet_bel (by kernel_rfl) (by kernel_rfl) ?_; (repeat (first | go_big_quiet_step (fail) | quiet_step (fail))); refine wpQuiet_nil ?_; intro wq hw0; obtain ⟨⟨_, hbq⟩, hw1⟩ := hw0; subst hw1; try dsimp only)
            have p1 := (hbq.cell (p := ⟨b, off + a * 2 + 1, none⟩) hbl2).trans Y1.out
            have p3 := (hbq.cell (p := ⟨b8, off8 + 1, none⟩) hb8).trans Z1.out
            have p4 := (hbq.cell (p := ⟨b7, off7 + t, none⟩) hb7).trans E7.out
            have HBQ := Lib.hid hbq
            clear q0 q1 q2 q3 q4 hbq
            have q1 := bq_cell p1
            have q3 := bq_cell p3
            have q4 := bq_cell p4
            obtain ⟨wu, rfl⟩ : ∃ wu : World, wu = wq := ⟨_, rfl⟩
            clear p1 p3 p4
            go_wp2_with fail
            (refine wp_region_quiet_bel (by kernel_rfl) (by kernel_rfl) ?_; (repeat (first | go_big_quiet_step (fail) | quiet_step (fail))); refine wpQuiet_nil ?_; intro wq hw0; obtain ⟨⟨_, hbq⟩, hw1⟩ := hw0; subst hw1; try dsimp only)
            have hbt2 := bl_trans HBQ.out hbq
            have hbz7 := hbt2.size
            have HBT2 := Lib.hid (HBT.out.trans (hbt2.mono HBT.out.size))
            have E7T := Lib.hid ((hbt2.cell (p := ⟨b7, off7 + t, none⟩) hb7).trans E7.out)
            have HROT := Lib.hid (HRO.out.below hbt2)
            obtain ⟨wt, rfl⟩ : ∃ wt : World, wt = wq := ⟨_, rfl⟩
            clear q1 q3 q4 hbq hbt2
            have HWT := Lib.hid (HWS.out.bel HBT2.out)
            have HPT := Lib.hid (HPS.out.bel HBT2.out)
            have HUT := Lib.hid (HUS.out.bel HBT2.out)
            have hb7t : b7 < wt.heap.size := by have := E7T.out; exact World.block_lt_of_cell? _ ⟨b7, off7 + t, none⟩ this
            have hzs := HBT2.out.size
            have hgt := HUT.out.lt
            have O0 := Lib.hid (OwC.new_ (B := wt.heap.size) (w := wt) (Nat.le_refl _))
            have hB0 := bl_alloc (Below.refl wt.heap.size wt) (.cells #[] 35)
            go_upto_block 4 with fail
            go_cut [14] from 72 to 116 (fun v wr' => ∃ p : Nat, p ≤ n7 ∧ OwC wt.heap.size wr' v (ml.take p) ∧ Hid (p < n7 → gdB s ml = false) ∧ Hid (p = n7 → gdB s ml = true) ∧ Below wt.heap.size wt wr')
            case first =>
              go_wp2_with fail
              go_loopw [14, 15] (fun v i wr' => ∃ j : Nat, j ≤ n7 ∧ i = .int .i64 j ∧ OwC wt.heap.size wr' v (ml.take j) ∧ Hid (∀ c ∈ ml.take j, cellOk c.1 c.2 = true ∧ s.testBit (idxN c) = true) ∧ Below wt.heap.size wt wr') (fun _ i _ => n7 - (intOf i).toNat)
              case atStart => exact ⟨0, by omega, rfl, O0.out, Lib.hid (by simp), hB0⟩
              case round =>
                obtain ⟨j, hj, rfl, own, HGD, hB1⟩ := hrel
                clear O0 hB0
                have e7 := (hB1.cell (p := ⟨b7, off7 + t, none⟩) hb7t).trans E7T.out
                by_cases hjn : j < n7
                · have dj : decide (j < n7) = true := decide_eq_true hjn
                  obtain ⟨b9, off9, x9, y9, h9, hb9, hv9, _, _, _, c0, c1⟩ := HROT.out.at_ (k := j) (by have := HN7.out; omega)
                  injection h9 with h9
                  injection h9 with h9 h10
                  subst h9
                  subst h10
                  have hok9 := cellOk_iff.1 (HST.out.ok _ (List.mem_of_getElem? hv9))
                  dsimp only at hok9
                  have hmv := moveL_get hv9 dx dy
                  rw [← HML.out] at hmv
                  obtain ⟨X, hX⟩ : ∃ X, X = x9 + dx := ⟨_, rfl⟩
                  obtain ⟨Y, hY⟩ : ∃ Y, Y = y9 + dy := ⟨_, rfl⟩
                  rw [← hX, ← hY] at hmv
                  have hw2 : IntKind.i64.wrap (x9 + dx) = X := by rw [hX]; exact IntWalk.i64_in _ (by omega)
                  have hw3 : IntKind.i64.wrap (y9 + dy) = Y := by rw [hY]; exact IntWalk.i64_in _ (by omega)
                  have hw4 : x9 + dx = X := hX.symm
                  have hw5 : y9 + dy = Y := hY.symm
                  have hw6 : IntKind.i64.wrap X = X := IntWalk.i64_in _ (by omega)
                  have hw7 : IntKind.i64.wrap Y = Y := IntWalk.i64_in _ (by omega)
                  have hI1 : I64 X := ⟨by omega, by omega⟩
                  have hI2 : I64 Y := ⟨by omega, by omega⟩
                  have z0 := (hB1.cell (p := ⟨b8, off8 + j * 2, none⟩) hb9).trans c0
                  have z1 := (hB1.cell (p := ⟨b8, off8 + j * 2 + 1, none⟩) hb9).trans c1
                  have hj0 : (0 : Int) ≤ (j : Int) := by omega
                  have hj1 : (j : Int) < (n7 : Int) := by omega
                  have HMV := Lib.hid hmv
                  have HB1 := Lib.hid hB1
                  have HO1 := Lib.hid own
                  have hlm : (ml.take j).length ≤ 1048576 := by rw [List.length_take]; omega
                  have htsn := Lib.hid (take_snoc_at hmv)
                  clear hX hY hv9 c0 c1 hmv hB1 own
                  go_wp2_with fail
                  go_region_held3 (fun w' => w'.cell? ⟨b7, off7 + t, none⟩ = some (.slice (some ⟨b8, off8, none⟩) n7 c7) ∧ w'.cell? ⟨b8, off8 + j * 2, none⟩ = some (.int .i64 x9) ∧ w'.cell? ⟨b8, off8 + j * 2 + 1, none⟩ = some (.int .i64 y9)) (go_keep) (first | fail)
                  have Q := (Blk.new wr 35 [.int .i64 X, .int .i64 Y]).drew
                  have O1 := Lib.hid (HO1.out.bel (bl_drew (bl_alloc (Below.refl wr.heap.size wr) (.cells #[.int .i64 X, .int .i64 Y] 35))))
                  have hB := bl_drew (bl_alloc HB1.out (.cells #[.int .i64 X, .int .i64 Y] 35))
                  obtain ⟨W1, hW1⟩ : ∃ W1 : World, W1 = (wr.alloc (.cells #[.int .i64 X, .int .i64 Y] 35)).drew := ⟨_, rfl⟩
                  rw [← hW1] at Q O1 hB ⊢
                  clear hW1 e7 z0 z1 HB1 HO1
                  have Qc := Q.c2
                  have P := HPT.out.bel hB
                  have Pc := P.c1
                  have UB1 := HUT.out.bel hB
                  cases hco : cellOk X Y
                  · have HHC := Lib.hid (show (regOk rs && cellOk X Y && regHas rs X Y) = false by rw [hco]; simp)
                    have HBAD := Lib.hid (gdB_no (s := s) HMV.out (.inl hco))
                    clear hco
                    go_wp2_with (go_at_call 84; refine (HasCell_s A c rs X Y _ h8 (HR.out _ (HWT.out.bel (bl_trans hB (by go_grown))))).mono ?_; rintro e wn ⟨rfl, hbn⟩; have hSz := bl_sz (bl_trans hB (by go_grown)) hbn; replace hB := bl_trans (bl_trans hB (by go_grown)) hbn; replace P := P.bel (bl_trans (by go_grown) hbn); replace Pc := P.c1; replace Q := Q.bel (bl_trans (by go_grown) hbn); replace Qc := Q.c2; rw [HHC.out]; replace O1 := Lib.hid (O1.out.bel (bl_trans (by go_grown) hbn)); clear hbn)
                    go_meet
                    exact ⟨j, by omega, O1.out, Lib.hid (fun _ => HBAD.out), Lib.hid (fun e => absurd e (by omega)), hB⟩
                  · obtain ⟨i, hi⟩ : ∃ i, i = (Y * 8 + X).toNat := ⟨_, rfl⟩
                    have hi64 : i < 64 := by have := cellOk_iff.1 hco; omega
                    have HI := Lib.hid hi.symm
                    have hii : idxN (X, Y) = i := hi.symm
                    have hhc := HasCell_bit HREG.out hco
                    rw [← HRR.out, hii] at hhc
                    have hsb : s.testBit i = (R.testBit i && !U.testBit i) := by rw [HSD.out, bdiff_bit hRl hUl]
                    cases hr : R.testBit i
                    · have HHC := Lib.hid (hhc.trans hr)
                      have HBAD := Lib.hid (gdB_no (s := s) HMV.out (.inr (by rw [hii, hsb, hr]; rfl)))
                      clear hi hii hhc hsb hr hco
                      go_wp2_with (go_at_call 84; refine (HasCell_s A c rs X Y _ h8 (HR.out _ (HWT.out.bel (bl_trans hB (by go_grown))))).mono ?_; rintro e wn ⟨rfl, hbn⟩; have hSz := bl_sz (bl_trans hB (by go_grown)) hbn; replace hB := bl_trans (bl_trans hB (by go_grown)) hbn; replace P := P.bel (bl_trans (by go_grown) hbn); replace Pc := P.c1; replace Q := Q.bel (bl_trans (by go_grown) hbn); replace Qc := Q.c2; rw [HHC.out]; replace O1 := Lib.hid (O1.out.bel (bl_trans (by go_grown) hbn)); clear hbn)
                      go_meet
                      exact ⟨j, by omega, O1.out, Lib.hid (fun _ => HBAD.out), Lib.hid (fun e => absurd e (by omega)), hB⟩
                    · have HHC := Lib.hid (hhc.trans hr)
                      have HCO := Lib.hid hco
                      cases hu : U.testBit i
                      · have HU := Lib.hid hu
                        have HGD2 := Lib.hid (show ∀ q ∈ ml.take (j + 1), cellOk q.1 q.2 = true ∧ s.testBit (idxN q) = true from fun q hq => by
                          rw [htsn.out] at hq
                          rcases List.mem_append.1 hq with hq | hq
                          · exact HGD.out q hq
                          · simp at hq; rw [hq]; exact ⟨hco, by rw [hii, hsb, hr, hu]; rfl⟩)
                        clear hi hii hhc hsb hr hco hu
                        go_wp2_with (first | (go_at_call 84; refine (HasCell_s A c rs X Y _ h8 (HR.out _ (HWT.out.bel (bl_trans hB (by go_grown))))).mono ?_; rintro e wn ⟨rfl, hbn⟩; have hSz := bl_sz (bl_trans hB (by go_grown)) hbn; replace hB := bl_trans (bl_trans hB (by go_grown)) hbn; replace P := P.bel (bl_trans (by go_grown) hbn); replace Pc := P.c1; replace Q := Q.bel (bl_trans (by go_grown) hbn); replace Qc := Q.c2; rw [HHC.out]; replace O1 := Lib.hid (O1.out.bel (bl_trans (by go_grown) hbn)); replace UB1 := UB1.bel (bl_trans (by go_grown) hbn); clear hbn) | (go_at_call 180; refine (CellIndex_n X Y _ HCO.out).mono ?_; rintro e wn ⟨rfl, hbn⟩; have hSz := bl_sz (bl_trans hB (by go_grown)) hbn; replace hB := bl_trans (bl_trans hB (by go_grown)) hbn; replace P := P.bel (bl_trans (by go_grown) hbn); replace Pc := P.c1; replace Q := Q.bel (bl_trans (by go_grown) hbn); replace Qc := Q.c2; rw [HI.out]; replace O1 := Lib.hid (O1.out.bel (bl_trans (by go_grown) hbn)); replace UB1 := UB1.bel (bl_trans (by go_grown) hbn); have hcu := UB1.getB hi64; rw [HU.out] at hcu; clear hbn) | (at_builtin; refine wpList_appC rfl (.tmp 113) (.tmp 115) rfl wt.heap.size _ (ml.take j) X Y rfl rfl O1.out hB.size hlm hI1 hI2 ?_; intro v1 w1 o1 b1 g1; go_must (have O4 := Lib.hid o1; have HB4 := Lib.hid (b1 _ hB); clear o1 b1 g1)))
                        go_roundw
                        case rel => exact ⟨j + 1, by omega, by go_num, by rw [htsn.out]; exact O4.out, HGD2, HB4.out⟩
                        case measure => simp [intOf]; omega
                      · have HU := Lib.hid hu
                        have HBAD := Lib.hid (gdB_no (s := s) HMV.out (.inr (by rw [hii, hsb, hr, hu]; rfl)))
                        clear hi hii hhc hsb hr hco hu
                        go_wp2_with (first | (go_at_call 84; refine (HasCell_s A c rs X Y _ h8 (HR.out _ (HWT.out.bel (bl_trans hB (by go_grown))))).mono ?_; rintro e wn ⟨rfl, hbn⟩; have hSz := bl_sz (bl_trans hB (by go_grown)) hbn; replace hB := bl_trans (bl_trans hB (by go_grown)) hbn; replace P := P.bel (bl_trans (by go_grown) hbn); replace Pc := P.c1; replace Q := Q.bel (bl_trans (by go_grown) hbn); replace Qc := Q.c2; rw [HHC.out]; replace O1 := Lib.hid (O1.out.bel (bl_trans (by go_grown) hbn)); replace UB1 := UB1.bel (bl_trans (by go_grown) hbn); clear hbn) | (go_at_call 180; refine (CellIndex_n X Y _ HCO.out).mono ?_; rintro e wn ⟨rfl, hbn⟩; have hSz := bl_sz (bl_trans hB (by go_grown)) hbn; replace hB := bl_trans (bl_trans hB (by go_grown)) hbn; replace P := P.bel (bl_trans (by go_grown) hbn); replace Pc := P.c1; replace Q := Q.bel (bl_trans (by go_grown) hbn); replace Qc := Q.c2; rw [HI.out]; replace O1 := Lib.hid (O1.out.bel (bl_trans (by go_grown) hbn)); replace UB1 := UB1.bel (bl_trans (by go_grown) hbn); have hcu := UB1.getB hi64; rw [HU.out] at hcu; clear hbn))
                        go_meet
                        exact ⟨j, by omega, O1.out, Lib.hid (fun _ => HBAD.out), Lib.hid (fun e => absurd e (by omega)), hB⟩
                · obtain rfl : j = n7 := by omega
                  have dj : decide (j < j) = false := decide_eq_false (by omega)
                  have HGA := Lib.hid (show gdB s ml = true from gdB_iff.2 (by have h := HGD.out; rwa [List.take_of_length_le (by have := HMLL.out; omega)] at h))
                  go_wp2_with fail
                  go_meet
                  exact ⟨j, by omega, own, Lib.hid (fun e => absurd e (by omega)), Lib.hid (fun _ => HGA.out), hB1⟩
            case rest =>
              obtain ⟨p, hp, own, HG1, HG2, hBp⟩ := hcut
              clear O0 hB0
              have e7 := (hBp.cell (p := ⟨b7, off7 + t, none⟩) hb7t).trans E7T.out
              obtain ⟨A14, c14, rfl⟩ := own.form
              have hpl : (ml.take p).length = p := by rw [List.length_take, HMLL.out]; omega
              rw [hpl] at own ⊢
              by_cases hpn : p < n7
              · have HR4 := Lib.hid (show wrap64 (covSum G s (tSk x y (trs.take (t + 1)))) = n by
                  rw [HSN.out, HG1.out hpn, HNN.out]; simp)
                have HBF := Lib.hid (HBT2.out.trans (hBp.mono hzs))
                clear own hpl hBp
                go_wp2_with fail
                go_roundw
                case rel => exact ⟨t + 1, by omega, by go_num, by rw [HR4.out], HBF.out⟩
                case measure => simp [intOf]; omega
              · have hpe : p = n7 := by omega
                have hga := HG2.out hpe
                subst hpe
                rw [List.take_of_length_le (by have := HMLL.out; omega)] at own
                have hgi := gdB_iff.1 hga
                have hfit : fitsL tr dx dy = true := fitsL_iff.2 (by rw [← HML.out]; exact fun q hq => (hgi q hq).1)
                have hnd : ml.Nodup := by rw [HML.out]; exact (moveL_strict HST.out hfit).nodup
                have hokm : ∀ q ∈ ml, cellOk q.1 q.2 = true := fun q hq => (hgi q hq).1
                obtain ⟨o, ho⟩ : ∃ o, o = setL ml := ⟨_, rfl⟩
                have hol : o < 18446744073709551616 := by rw [ho]; exact setL_lt hokm
                have c4' : s &&& o = o := by
                  have h := all_sub (s := s) (l := ml)
                  rw [List.all_eq_true.2 fun q hq => (hgi q hq).2, ← ho] at h
                  simpa using h.symm
                have hon : o ≠ 0 := by
                  rw [ho]
                  exact setL_ne fun e => by have := HMLL.out; rw [e] at this; simp at this; omega
                have HSL := Lib.hid ho.symm
                have hdis := sub_disj (l := ml) hRl hUl (by rw [← HSD.out, HSL.out]; exact c4')
                have HDIS := Lib.hid hdis
                have HND := Lib.hid hnd
                have HOKM := Lib.hid hokm
                obtain ⟨hbo, hcf⟩ := bdiff_or_card hRl hUl hol HSD.out c4' hon HCD.out
                obtain ⟨x2, hx2⟩ : ∃ x2, x2 = wrap64 (G o) := ⟨_, rfl⟩
                have HX := Lib.hid (show wrap64 (covs (tilesS trs) f (bdiff R (U ||| o))) = x2 by rw [hx2, HG.out, hbo])
                obtain ⟨n2, hn2⟩ : ∃ n2, n2 = wrap64 (n + x2) := ⟨_, rfl⟩
                have hv1 : wrap64 (n + x2) = n2 := hn2.symm
                have hv2 : IntKind.i64.wrap (n + x2) = n2 := by rw [wrap_i64, hv1]
                have HR4 := Lib.hid (show wrap64 (covSum G s (tSk x y (trs.take (t + 1)))) = n2 by
                  rw [HSN.out, hga, if_pos rfl, ← ho, hn2, hx2, HNN.out, wrap_add])
                have hUol : U ||| o < 18446744073709551616 := or_lt hUl hol
                have HUM := Lib.hid (HUT.out.bel hBp)
                have HPM := Lib.hid (HPT.out.bel hBp)
                have OCM := Lib.hid own
                have HWM := Lib.hid (HWT.out.bel hBp)
                have HBM := Lib.hid (HBT2.out.trans (hBp.mono hzs))
                have hBm1 : g + 1 ≤ wt.heap.size := hgt
                have hL8 : p ≤ 1048576 := by omega
                obtain ⟨wm, rfl⟩ : ∃ wm : World, wm = wc := ⟨_, rfl⟩
                have e7m := Lib.hid e7
                clear hdis c4' hon hbo hx2 hn2 hBp ho hga hgi hfit hnd hokm own hpl hpn
                go_upto_block 6 with fail
                clear e7
                go_wp2_with fail
                go_loopw [17] (fun i wr => ∃ j : Nat, j ≤ p ∧ i = .int .i64 j ∧ Blk wr g 4 (mkB (U ||| setL (ml.take j))) ∧ Btw g (g + 1) wm wr) (fun i _ => p - (intOf i).toNat)
                case atStart => exact ⟨0, by omega, rfl, by simpa [setL] using HUM.out, Btw.refl _ _ _⟩
                case round =>
                  obtain ⟨j2, hj2, rfl, UBm, hBt⟩ := hrel
                  have OCJ := OCM.out.btw hBt hBm1
                  by_cases hj3 : j2 < p
                  · have dj2 : decide (j2 < p) = true := decide_eq_true hj3
                    obtain ⟨b9, off9, p, q, rfl, hb9, hv9, _, _, _, c0, c1⟩ := OCJ.rd.at_ (k := j2) (by have := HMLL.out; omega)
                    have hpq := HOKM.out _ (List.mem_of_getElem? hv9)
                    obtain ⟨i, hi⟩ : ∃ i, i = (q * 8 + p).toNat := ⟨_, rfl⟩
                    have hi64 : i < 64 := by have := cellOk_iff.1 hpq; omega
                    have HI := Lib.hid hi.symm
                    have HII := Lib.hid (show idxN (p, q) = i from hi.symm)
                    have HV9 := Lib.hid hv9
                    have HUBm := Lib.hid UBm
                    have HBt := Lib.hid hBt
                    clear hv9 hi OCJ UBm hBt
                    go_wp2_with (go_at_call 180; refine (CellIndex_n p q _ hpq).mono ?_; rintro e wn ⟨rfl, hbn⟩; rw [HI.out]; have UB2 := HUBm.out.bel hbn; have hcu := UB2.getB hi64; have huf := UB2.frozen i; have hm2 := UB2.markB HV9.out; rw [HII.out] at hm2; have HM2 := Lib.hid hm2; have HBt2 := Lib.hid ((HBt.out.bel hbn).set i (.bool true)); clear UB2 hm2)
                    go_roundw
                    case rel => exact ⟨j2 + 1, by omega, by go_num, HM2.out, HBt2.out⟩
                    case measure => simp [intOf]; omega
                  · have hj33 : j2 = p := by omega
                    have dj2 : decide (j2 < p) = false := decide_eq_false (by omega)
                    rw [hj33, List.take_of_length_le (by have := HMLL.out; omega), HSL.out] at UBm
                    obtain ⟨w2, rfl⟩ : ∃ w2 : World, w2 = wr := ⟨_, rfl⟩
                    have HIh := Lib.hid (Ih.out (U ||| o) w2 (HWM.out.trans hBt) UBm hUol hcf)
                    have HPW := HPM.out.btw hBt (.inr (by omega))
                    have HPWc := HPW.c1
                    have HU2 := Lib.hid UBm
                    have HBt := Lib.hid hBt
                    have OC2 := Lib.hid OCJ
                    clear hj33 UBm hBt OCJ HPW
                    go_upto_block 8 with (go_at_call 96; refine HIh.out.mono ?_; rintro e wn ⟨rfl, hbn⟩; rw [HX.out])
                    obtain ⟨w3, rfl⟩ : ∃ w3 : World, w3 = wn := ⟨_, rfl⟩
                    have HBt3 := Lib.hid (HBt.out.bel hbn)
                    have HU3 := Lib.hid (HU2.out.bel hbn)
                    have OC3 := Lib.hid (OC2.out.bel hbn)
                    clear hbn HIh HPWc
                    go_wp2_with fail
                    go_loopw [18] (fun i wr => ∃ j : Nat, j ≤ p ∧ i = .int .i64 j ∧ Blk wr g 4 (mkB (U ||| setL (ml.drop j))) ∧ Btw g (g + 1) w3 wr) (fun i _ => p - (intOf i).toNat)
                    case atStart => exact ⟨0, by omega, rfl, by rw [List.drop_zero, HSL.out]; exact HU3.out, Btw.refl _ _ _⟩
                    case round =>
                      obtain ⟨j3, hj4, rfl, UBm, hBt⟩ := hrel
                      have OCJ := OC3.out.btw hBt hBm1
                      by_cases hj5 : j3 < p
                      · have dj3 : decide (j3 < p) = true := decide_eq_true hj5
                        obtain ⟨b9, off9, p, q, rfl, hb9, hv9, _, _, _, c0, c1⟩ := OCJ.rd.at_ (k := j3) (by have := HMLL.out; omega)
                        have hpq := HOKM.out _ (List.mem_of_getElem? hv9)
                        obtain ⟨i, hi⟩ : ∃ i, i = (q * 8 + p).toNat := ⟨_, rfl⟩
                        have hi64 : i < 64 := by have := cellOk_iff.1 hpq; omega
                        have HI := Lib.hid hi.symm
                        have HII := Lib.hid (show idxN (p, q) = i from hi.symm)
                        have HV9 := Lib.hid hv9
                        have HUI := Lib.hid (HDIS.out _ (List.mem_of_getElem? hv9))
                        have HUBm := Lib.hid UBm
                        have HBt := Lib.hid hBt
                        clear hv9 hi OCJ UBm hBt
                        go_wp2_with (go_at_call 180; refine (CellIndex_n p q _ hpq).mono ?_; rintro e wn ⟨rfl, hbn⟩; rw [HI.out]; have UB2 := HUBm.out.bel hbn; have hcu := UB2.getB hi64; have huf := UB2.frozen i; have hm2 := UB2.clrB HV9.out HOKM.out HND.out HUI.out; rw [HII.out] at hm2; have HM2 := Lib.hid hm2; have HBt2 := Lib.hid ((HBt.out.bel hbn).set i (.bool false)); clear UB2 hm2)
                        go_roundw
                        case rel => exact ⟨j3 + 1, by omega, by go_num, HM2.out, HBt2.out⟩
                        case measure => simp [intOf]; omega
                      · have hj33 : j3 = p := by omega
                        have dj3 : decide (j3 < p) = false := decide_eq_false (by omega)
                        rw [hj33, List.drop_eq_nil_of_le (by have := HMLL.out; omega), show setL [] = 0 from rfl, Nat.or_zero] at UBm
                        have HFIN := Lib.hid (HBM.out.trans (((HBt3.out.trans hBt).back HUM.out UBm).mono HBM.out.size))
                        clear hj33 UBm hBt OCJ
                        go_wp2_with fail
                        go_roundw
                        case rel => exact ⟨t + 1, by omega, by go_num, by rw [HR4.out], HFIN.out⟩
                        case measure => simp [intOf]; omega
          · obtain rfl : t = M := by omega
            have HE := Lib.hid (show wrap64 (covSum G s (tSk x y (trs.take t))) = wrap64 (covs (tilesS trs) (f + 1) s) by rw [List.take_of_length_le (by have := HM.out; omega), HCV.out])
            go_wp2_with fail
            go_ret
            exact ⟨ret_int HE.out, HBS.out.trans (hBt.mono HBS.out.size)⟩
theorem OwC.apart {B g : Nat} {w W : World} {v : Value} {l : List (Int × Int)} {xs : List Value} (h : OwC B w v l) (hU : Blk w g 4 xs) (hb : Btw g (g + 1) w W) : OwC B W v l :=
  ⟨h.1, ownsRow_loc h.2.1 (fun k hk hlt => hb.block k hlt (by
    obtain ⟨cur, fr, h2⟩ := own_typ h.2.1 k hk
    have hne : k ≠ g := fun e => by
      subst e
      unfold Blk at hU
      rw [hU] at h2
      injection h2 with h2
      injection h2 with _ h3
      exact absurd h3 (by decide)
    omega)), h.2.2⟩
theorem OwCC.apart {B g : Nat} {w W : World} {v : Value} {ll : List (List (Int × Int))} {xs : List Value} (h : OwCC B w v ll) (hU : Blk w g 4 xs) (hb : Btw g (g + 1) w W) : OwCC B W v ll := by
  obtain ⟨h1, vs, h2, h3⟩ := h
  refine ⟨h1, vs, ownsRow_loc h2 (fun k hk hlt => hb.block k hlt (by
    obtain ⟨cur, fr, h4⟩ := own_typ h2 k hk
    have hne : k ≠ g := fun e => by
      subst e
      unfold Blk at hU
      rw [hU] at h4
      injection h4 with h4
      injection h4 with _ h5
      exact absurd h5 (by decide)
    omega)), fun i l hl => ?_⟩
  obtain ⟨u, hu, ho⟩ := h3 i l hl
  exact ⟨u, hu, OwC.apart ho hU hb⟩
set_option maxRecDepth 100000 in
set_option maxHeartbeats 2000000 in
theorem CountShape_s (A : Option Addr) (c : Nat) (rs : List Int) (B : Option Addr) (N d : Nat) (sh : List Cl) (w : World) (hl : rs.length ≤ 1048576) (hr : RdI w A rs) (hN : N = sh.length) (hl2 : N ≤ 1048576) (hs : RdC w B sh) :
    Calls Try.prog 21 #[.agg #[.slice A rs.length c], .slice B N d] w fun e w' => e = .returned (.int .i64 (countShape rs sh)) ∧ Below w.heap.size w w' := by
  have hmk : ∀ w : World, (Instr.makeSlice 119 (.int .i64 64) (.int .i64 64)).run Try.prog w = .ok (.slice (some ⟨w.heap.size, 0, none⟩) 64 64) (w.alloc (.cells (mkB 0).toArray 4)) := fun w => by
    rw [mkB_zero, ← made_list]
    exact run_make_row' (P := Try.prog) 119 4 (.bool false) 1 Try.underlying119 info_bool rfl .i64 .i64 64 (by omega) (by omega) w
  (have hB := Below.refl w.heap.size w; have P := Blk.new w 31 [.slice A rs.length c]; have Pc := P.c1)
  have hr' := Lib.hid hr
  have hs' := Lib.hid hs
  have HN := Lib.hid hN
  clear hr hs hN
  obtain ⟨L, hL⟩ : ∃ L, L = (regCells rs).length := ⟨_, rfl⟩
  have HL := Lib.hid hL
  cases h : regOk rs
  · have H := Lib.hid (countShape_no1 sh h)
    have H1 := Lib.hid h
    clear h hL hmk
    go_enter Try.func21, Try.ntmps21
    go_wp2_with (first | (go_at_call 23; refine (CellsOf_s A c rs _ hl (hr'.out.below (bl_trans hB (by go_grown)))).mono ?_; rintro e wn ⟨v, rfl, o1, hbn⟩; have hSz := bl_sz (bl_trans hB (by go_grown)) hbn; replace hB := bl_trans (bl_trans hB (by go_grown)) hbn; replace P := P.bel (bl_trans (by go_grown) hbn); replace Pc := P.c1; obtain ⟨⟨A1, c1, rfl⟩, _⟩ := id o1; have R1 := Lib.hid o1.rd; clear o1; rw [← HL.out]; clear hbn) | (go_at_call 94; refine (RegionOk_s A c rs _ hl (hr'.out.below (bl_trans hB (by go_grown)))).mono ?_; rintro e wn ⟨rfl, hbn⟩; have hSz := bl_sz (bl_trans hB (by go_grown)) hbn; replace hB := bl_trans (bl_trans hB (by go_grown)) hbn; replace P := P.bel (bl_trans (by go_grown) hbn); replace Pc := P.c1; rw [H1.out]; replace R1 := Lib.hid (R1.out.below (bl_trans (by go_grown) hbn)); clear hbn))
    go_ret
    exact ⟨ret_int H.out.symm, (by first | (go_grown; done) | exact bl_trans hB (by go_grown))⟩
  · have H1 := Lib.hid h
    have hRl := regSet_lt h
    clear h
    cases h2 : shapeOk sh
    · have H := Lib.hid (countShape_no2 rs h2)
      have H2 := Lib.hid h2
      clear h2 hL hmk
      go_enter Try.func21, Try.ntmps21
      go_wp2_with (first | (go_at_call 23; refine (CellsOf_s A c rs _ hl (hr'.out.below (bl_trans hB (by go_grown)))).mono ?_; rintro e wn ⟨v, rfl, o1, hbn⟩; have hSz := bl_sz (bl_trans hB (by go_grown)) hbn; replace hB := bl_trans (bl_trans hB (by go_grown)) hbn; replace P := P.bel (bl_trans (by go_grown) hbn); replace Pc := P.c1; obtain ⟨⟨A1, c1, rfl⟩, _⟩ := id o1; have R1 := Lib.hid o1.rd; clear o1; rw [← HL.out]; clear hbn) | (go_at_call 94; refine (RegionOk_s A c rs _ hl (hr'.out.below (bl_trans hB (by go_grown)))).mono ?_; rintro e wn ⟨rfl, hbn⟩; have hSz := bl_sz (bl_trans hB (by go_grown)) hbn; replace hB := bl_trans (bl_trans hB (by go_grown)) hbn; replace P := P.bel (bl_trans (by go_grown) hbn); replace Pc := P.c1; rw [H1.out]; replace R1 := Lib.hid (R1.out.below (bl_trans (by go_grown) hbn)); clear hbn) | (go_at_call 95; refine (ShapeOk_s B N d sh _ HN.out hl2 (hs'.out.below (bl_trans hB (by go_grown)))).mono ?_; rintro e wn ⟨rfl, hbn⟩; have hSz := bl_sz (bl_trans hB (by go_grown)) hbn; replace hB := bl_trans (bl_trans hB (by go_grown)) hbn; replace P := P.bel (bl_trans (by go_grown) hbn); replace Pc := P.c1; rw [H2.out]; replace R1 := Lib.hid (R1.out.below (bl_trans (by go_grown) hbn)); clear hbn))
      go_ret
      exact ⟨ret_int H.out.symm, (by first | (go_grown; done) | exact bl_trans hB (by go_grown))⟩
    · have H2 := Lib.hid h2
      have hcl := regCells_len rs
      rw [← hL] at hcl
      clear h2
      by_cases h20 : L ≤ 20
      · have H := Lib.hid (show wrap64 (covs (tilesS (turnsR sh)) 64 (bdiff (regSet rs) 0)) = countShape rs sh by rw [countShape_yes H1.out H2.out (by rw [← hL]; exact h20), bdiff_zero _ hRl])
        have d1 : decide ((20 : Int) < (L : Int)) = false := decide_eq_false (by omega)
        obtain ⟨M, hM⟩ : ∃ M, M = (turnsR sh).length := ⟨_, rfl⟩
        have HM := Lib.hid hM
        clear hL hM
        go_enter Try.func21, Try.ntmps21
        go_wp2_with (first | (go_at_call 23; refine (CellsOf_s A c rs _ hl (hr'.out.below (bl_trans hB (by go_grown)))).mono ?_; rintro e wn ⟨v, rfl, o1, hbn⟩; have hSz := bl_sz (bl_trans hB (by go_grown)) hbn; replace hB := bl_trans (bl_trans hB (by go_grown)) hbn; replace P := P.bel (bl_trans (by go_grown) hbn); replace Pc := P.c1; obtain ⟨⟨A1, c1, rfl⟩, _⟩ := id o1; have R1 := Lib.hid o1.rd; clear o1; rw [← HL.out]; clear hbn) | (go_at_call 94; refine (RegionOk_s A c rs _ hl (hr'.out.below (bl_trans hB (by go_grown)))).mono ?_; rintro e wn ⟨rfl, hbn⟩; have hSz := bl_sz (bl_trans hB (by go_grown)) hbn; replace hB := bl_trans (bl_trans hB (by go_grown)) hbn; replace P := P.bel (bl_trans (by go_grown) hbn); replace Pc := P.c1; rw [H1.out]; replace R1 := Lib.hid (R1.out.below (bl_trans (by go_grown) hbn)); clear hbn) | (go_at_call 95; refine (ShapeOk_s B N d sh _ HN.out hl2 (hs'.out.below (bl_trans hB (by go_grown)))).mono ?_; rintro e wx ⟨rfl, hbn⟩; have hSz := bl_sz (bl_trans hB (by go_grown)) hbn; replace hB := bl_trans (bl_trans hB (by go_grown)) hbn; replace P := P.bel (bl_trans (by go_grown) hbn); replace Pc := P.c1; rw [H2.out]; replace R1 := Lib.hid (R1.out.below (bl_trans (by go_grown) hbn)); clear hbn))
        have HX := Lib.hid (hr'.out.below hB)
        have HSX := Lib.hid (hs'.out.below hB)
        have h0lt : (0 : Nat) < 18446744073709551616 := by decide
        go_region_held3 (fun w' => w'.cell? ⟨w.heap.size, 0, none⟩ = some (.slice A rs.length c)) (go_keep)
          (first | (go_at_call 97; refine (TurnsOfShape_s B N d sh _ HN.out hl2 (HSX.out.below (by go_grown))).mono ?_; rintro e wt ⟨v9, rfl, o9, hbt⟩; replace hB := bl_trans (bl_trans hB (by go_grown)) hbt; replace P := P.bel (bl_trans (by go_grown) hbt); replace Pc := P.c1; obtain ⟨A9, c9, rfl⟩ := OwCC.form o9; rw [← HM.out] at o9 ⊢; have O9 := Lib.hid o9; have hbx := bl_trans (w := wx) (by go_grown) hbt; clear o9) | ((with_reducible refine (l29Count_any wt wt.heap.size A c rs H1.out (fun W hW => HX.out.below (hbx.trans ((hW.below (Below.refl _ _) (Nat.le_refl _) (Nat.le_refl _)).mono hbx.size))) A1 L c1 (regCells rs) rfl HL.out (fun W hW => R1.out.below (hbx.trans ((hW.below (Below.refl _ _) (Nat.le_refl _) (Nat.le_refl _)).mono hbx.size))) A9 M c9 (turnsR sh) (Trs.of sh) HM.out (fun W hW => O9.out.rd.below (hW.below (Below.refl _ _) (Nat.le_refl _) (Nat.le_refl _))) 64 0 _ (Btw.of_bel ?q1) ?q2 h0lt (card_le _)).mono ?_); (case q1 => go_grown); (case q2 => exact Blk.new wt 4 (mkB 0)); rintro e wn ⟨rfl, hbn⟩; replace hB := bl_trans (bl_trans hB (by go_grown)) hbn; replace P := P.bel (bl_trans (by go_grown) hbn); replace Pc := P.c1; rw [H.out]) | (have hUB : Blk wt wx.heap.size 4 (mkB 0) := (by first | exact (Blk.new wx 4 (mkB 0)).bel hbt | exact (Blk.new wx 4 (mkB 0)).drew.bel hbt); (with_reducible refine (l29Count_any wt wx.heap.size A c rs H1.out (fun W hW => HX.out.below (hW.below hbx (Nat.le_refl _) hbx.size)) A1 L c1 (regCells rs) rfl HL.out (fun W hW => R1.out.below (hW.below hbx (Nat.le_refl _) hbx.size)) A9 M c9 (turnsR sh) (Trs.of sh) HM.out (fun W hW => (O9.out.apart hUB hW).rd) 64 0 _ (Btw.refl _ _ _) hUB h0lt (card_le _)).mono ?_); rintro e wn ⟨rfl, hbn⟩; replace hB := bl_trans (bl_trans hB (by go_grown)) hbn; replace P := P.bel (bl_trans (by go_grown) hbn); replace Pc := P.c1; rw [H.out]))
        all_goals (go_wp2_with fail; go_ret; exact ⟨rfl, (by first | (go_grown; done) | exact bl_trans hB (by go_grown))⟩)
      · have H := Lib.hid (countShape_no3 sh (by rw [← hL]; exact h20))
        have d1 : decide ((20 : Int) < (L : Int)) = true := decide_eq_true (by omega)
        clear hL hmk
        go_enter Try.func21, Try.ntmps21
        go_wp2_with (first | (go_at_call 23; refine (CellsOf_s A c rs _ hl (hr'.out.below (bl_trans hB (by go_grown)))).mono ?_; rintro e wn ⟨v, rfl, o1, hbn⟩; have hSz := bl_sz (bl_trans hB (by go_grown)) hbn; replace hB := bl_trans (bl_trans hB (by go_grown)) hbn; replace P := P.bel (bl_trans (by go_grown) hbn); replace Pc := P.c1; obtain ⟨⟨A1, c1, rfl⟩, _⟩ := id o1; have R1 := Lib.hid o1.rd; clear o1; rw [← HL.out]; clear hbn) | (go_at_call 94; refine (RegionOk_s A c rs _ hl (hr'.out.below (bl_trans hB (by go_grown)))).mono ?_; rintro e wn ⟨rfl, hbn⟩; have hSz := bl_sz (bl_trans hB (by go_grown)) hbn; replace hB := bl_trans (bl_trans hB (by go_grown)) hbn; replace P := P.bel (bl_trans (by go_grown) hbn); replace Pc := P.c1; rw [H1.out]; replace R1 := Lib.hid (R1.out.below (bl_trans (by go_grown) hbn)); clear hbn) | (go_at_call 95; refine (ShapeOk_s B N d sh _ HN.out hl2 (hs'.out.below (bl_trans hB (by go_grown)))).mono ?_; rintro e wn ⟨rfl, hbn⟩; have hSz := bl_sz (bl_trans hB (by go_grown)) hbn; replace hB := bl_trans (bl_trans hB (by go_grown)) hbn; replace P := P.bel (bl_trans (by go_grown) hbn); replace Pc := P.c1; rw [H2.out]; replace R1 := Lib.hid (R1.out.below (bl_trans (by go_grown) hbn)); clear hbn))
        go_ret
        exact ⟨ret_int H.out.symm, (by first | (go_grown; done) | exact bl_trans hB (by go_grown))⟩
end Go.Proofs.Ytdcjhfmkkcakhaa

/-
  Contracts of IsTiling and IsLayingOrder of both packages; nothing that was there is written; at most 1048576 dominoes.
-/
import Derived.Test.YtdcjhfmkkcakhaaLay
namespace Go.Proofs.Ytdcjhfmkkcakhaa
open Go.ChangeShapes Go.WideShapes Go.ChangeAt Go.RowKit Go.Deep
set_option linter.unusedVariables false

theorem covFold_acc (l : List Dm) (s : Nat) : l.foldl covStep s = s ||| covers l := by
  apply Nat.eq_of_testBit_eq; intro i
  rw [covFold_bit, Nat.testBit_or, covers_bit]
theorem covers_cons {d : Dm} {l : List Dm} (h : okD d = true) : covers (d :: l) = ownD d ||| covers l := by
  show (d :: l).foldl covStep 0 = _
  rw [List.foldl_cons, covFold_acc]
  unfold covStep
  rw [if_pos (show domOk d.1 d.2.1 d.2.2 = true from h), Nat.zero_or]; rfl
def prB (p : Option Dm) (d : Dm) : Bool := match p with
  | none => true
  | some e => befD e d
theorem takeP_cons (s : Nat) (p : Option Dm) (d : Dm) (l : List Dm) : takeP s p (d :: l) = if (okD d && (s &&& ownD d == ownD d) && prB p d) = true then takeP (bdiff s (ownD d)) (some d) l else none := by cases p <;> rfl
theorem takeP_some : ∀ (l : List Dm) (s u : Nat) (p : Option Dm), s < 18446744073709551616 → takeP s p l = some u → u = bdiff s (covers l) ∧ s &&& covers l = covers l ∧ card u + 2 * l.length = card s := by
  intro l
  induction l with
  | nil =>
    intro s u p hs h
    have h : some s = some u := h
    injection h with h
    subst h
    refine ⟨?_, by simp [covers], by simp⟩
    apply Nat.eq_of_testBit_eq; intro i
    rw [bdiff_bit hs (covers_lt _)]; simp [covers]
  | cons d l ih =>
    intro s u p hs h
    obtain ⟨hd, ho, h⟩ : okD d = true ∧ s &&& ownD d = ownD d ∧ takeP (bdiff s (ownD d)) (some d) l = some u := by
      rw [takeP_cons] at h
      split at h
      · rename_i hc
        simp only [Bool.and_eq_true, beq_iff_eq] at hc
        exact ⟨hc.1.1, hc.1.2, h⟩
      · cases h
    have hol := ownD_lt hd
    obtain ⟨h1, h2, h3⟩ := ih _ _ _ (bdiff_lt hs) h
    have hcl := covers_lt l
    have hsub : s &&& covers (d :: l) = covers (d :: l) := by
      refine sub_of_bits fun i hi => ?_
      rw [covers_cons hd, Nat.testBit_or, Bool.or_eq_true] at hi
      rcases hi with hi | hi
      · exact sub_bit ho i hi
      · have := sub_bit h2 i hi
        rw [bdiff_bit hs hol, Bool.and_eq_true] at this; exact this.1
    refine ⟨?_, hsub, ?_⟩
    · rw [h1]
      apply Nat.eq_of_testBit_eq; intro i
      rw [bdiff_bit (bdiff_lt hs) hcl, bdiff_bit hs hol, bdiff_bit hs (covers_lt _), covers_cons hd, Nat.testBit_or, Bool.not_or, Bool.and_assoc]
    · have h4 := card_diff hs hol ho
      have h5 : card (ownD d) = 2 := card_own hd
      rw [List.length_cons]; omega
theorem isTiling_cov {rs : List Int} {l : List Dm} : isTiling rs l = (isPartial rs l && (covers l == regSet rs)) := by
  unfold isTiling isPartial
  cases hreg : regOk rs
  · rfl
  · rw [Bool.true_and, Bool.true_and]
    cases ht : takeP (regSet rs) none l with
    | none => rfl
    | some u =>
      have hS := regSet_lt hreg
      obtain ⟨h1, h2, _⟩ := takeP_some l _ _ _ hS ht
      show (some u == some 0) = (true && _)
      rw [Bool.true_and, Bool.eq_iff_iff, beq_iff_eq, beq_iff_eq]
      constructor
      · intro h
        injection h with h
        apply Nat.eq_of_testBit_eq; intro i
        have h3 : (bdiff (regSet rs) (covers l)).testBit i = false := by rw [← h1, h]; simp
        rw [bdiff_bit hS (covers_lt l)] at h3
        cases h4 : (covers l).testBit i
        · cases h5 : (regSet rs).testBit i
          · rfl
          · rw [h4, h5] at h3; cases h3
        · exact (sub_bit h2 i h4).symm
      · intro h
        rw [h1, h]
        congr 1
        apply Nat.eq_of_testBit_eq; intro i
        rw [bdiff_bit hS hS]; simp
theorem isTiling_len {rs : List Int} {l : List Dm} : isTiling rs l = (isPartial rs l && decide (2 * l.length = (regCells rs).length)) := by
  unfold isTiling isPartial
  cases hreg : regOk rs
  · rfl
  · rw [Bool.true_and, Bool.true_and]
    cases ht : takeP (regSet rs) none l with
    | none => rfl
    | some u =>
      have hS := regSet_lt hreg
      obtain ⟨h1, h2, h3⟩ := takeP_some l _ _ _ hS ht
      have hul : u < 18446744073709551616 := by rw [h1]; exact bdiff_lt hS
      rw [regCells_set hreg, card_cells]
      show (some u == some 0) = (true && _)
      rw [Bool.true_and, Bool.eq_iff_iff, beq_iff_eq, decide_eq_true_eq]
      constructor
      · intro h
        injection h with h
        rw [h, (card_zero (by decide)).2 rfl] at h3
        omega
      · intro h
        congr 1
        exact (card_zero hul).1 (by omega)
set_option maxRecDepth 100000 in
set_option maxHeartbeats 1000000 in
theorem IsTiling_i (A : Option Addr) (c : Nat) (rs : List Int) (B : Option Addr) (N d : Nat) (l : List Dm) (w : World) (hl : rs.length ≤ 1048576) (hN : N = l.length) (hl2 : N ≤ 1048576) (hr : RdI w A rs) (hs : RdD w B l) :
    Calls Try.prog 164 #[.agg #[.slice A rs.length c], .slice B N d] w fun e w' => e = .returned (.bool (isTiling rs l)) ∧ Below w.heap.size w w' := by
  (have hB := Below.refl w.heap.size w; have P := Blk.new w 31 [.slice A rs.length c]; have Pc := P.c1)
  have hX := bl_alloc hB (.cells #[.slice A rs.length c] 31)
  have hr' := Lib.hid (hr.below hX)
  have hs' := Lib.hid (hs.below hX)
  have HN := Lib.hid hN
  have p0 := bq_cell Pc
  clear hr hs hN
  cases c1 : isPartial rs l
  · have C1 := Lib.hid c1
    have H := Lib.hid (show isTiling rs l = false by rw [isTiling_cov, c1]; rfl)
    clear c1
    go_enter Try.func164, Try.ntmps164
    go_wp2_with fail
    (refine wp_region_quiet_bel (by kernel_rfl) (by kernel_rfl) ?_; (repeat (first | go_big_quiet_step ((go_at_call 170; exact Calls.bel_of ((IsPartial_i A c rs B N d l _ hl HN.out hl2 (hr'.out.below (BelowOf.bel _)) (hs'.out.below (BelowOf.bel _))).mono (fun e w' h => ⟨h.1.trans (ret_bool C1.out), h.2⟩)))) | quiet_step ((go_at_call 170; exact Calls.bel_of ((IsPartial_i A c rs B N d l _ hl HN.out hl2 (hr'.out.below (BelowOf.bel _)) (hs'.out.below (BelowOf.bel _))).mono (fun e w' h => ⟨h.1.trans (ret_bool C1.out), h.2⟩)))))); refine wpQuiet_nil ?_; intro wq hw0; obtain ⟨⟨_, hbq⟩, hw1⟩ := hw0; subst hw1; try dsimp only)
    go_wp2_with fail
    go_ret
    exact ⟨ret_bool (by rw [H.out]), bl_trans hX hbq⟩
  · have C1 := Lib.hid c1
    have hreg : regOk rs = true := by unfold isPartial at c1; rw [Bool.and_eq_true] at c1; exact c1.1
    have HREG := Lib.hid hreg
    obtain ⟨cv, hcv⟩ : ∃ cv, cv = covers l := ⟨_, rfl⟩
    obtain ⟨sr, hsr⟩ : ∃ sr, sr = regSet rs := ⟨_, rfl⟩
    have H := Lib.hid (show isTiling rs l = decide (cv = sr) by rw [isTiling_cov, c1, hcv, hsr, Bool.true_and, Bool.eq_iff_iff]; simp)
    have HCV := Lib.hid hcv
    have HSR := Lib.hid hsr
    clear c1 hreg hcv hsr
    go_enter Try.func164, Try.ntmps164
    go_wp2_with fail
    (refine wp_region_quiet_bel (by kernel_rfl) (by kernel_rfl) ?_; (repeat (first | go_big_quiet_step (first | (go_at_call 170; exact Calls.bel_of ((IsPartial_i A c rs B N d l _ hl HN.out hl2 (hr'.out.below (BelowOf.bel _)) (hs'.out.below (BelowOf.bel _))).mono (fun e w' h => ⟨h.1.trans (ret_bool C1.out), h.2⟩))) | (go_at_call 117; exact Calls.bel_of ((covered_N B N d l _ HN.out hl2 (hs'.out.below (BelowOf.bel _))).mono (fun e w' h => ⟨h.1.trans (by rw [← HCV.out]), h.2⟩))) | (go_at_call 121; exact Calls.bel_of ((rset_any A c rs _ HREG.out (hr'.out.below (BelowOf.bel _))).mono (fun e w' h => ⟨h.1.trans (by rw [← HSR.out]), h.2⟩)))) | quiet_step (first | (go_at_call 170; exact Calls.bel_of ((IsPartial_i A c rs B N d l _ hl HN.out hl2 (hr'.out.below (BelowOf.bel _)) (hs'.out.below (BelowOf.bel _))).mono (fun e w' h => ⟨h.1.trans (ret_bool C1.out), h.2⟩))) | (go_at_call 117; exact Calls.bel_of ((covered_N B N d l _ HN.out hl2 (hs'.out.below (BelowOf.bel _))).mono (fun e w' h => ⟨h.1.trans (by rw [← HCV.out]), h.2⟩))) | (go_at_call 121; exact Calls.bel_of ((rset_any A c rs _ HREG.out (hr'.out.below (BelowOf.bel _))).mono (fun e w' h => ⟨h.1.trans (by rw [← HSR.out]), h.2⟩)))))); refine wpQuiet_nil ?_; intro wq hw0; obtain ⟨⟨_, hbq⟩, hw1⟩ := hw0; subst hw1; try dsimp only)
    go_wp2_with fail
    go_ret
    exact ⟨ret_bool (by rw [H.out, Bool.eq_iff_iff]; simp <;> omega), bl_trans hX hbq⟩
set_option maxRecDepth 100000 in
set_option maxHeartbeats 1000000 in
theorem IsTiling_s (A : Option Addr) (c : Nat) (rs : List Int) (B : Option Addr) (N d : Nat) (l : List Dm) (w : World) (hl : rs.length ≤ 1048576) (hN : N = l.length) (hl2 : N ≤ 1048576) (hr : RdI w A rs) (hs : RdD w B l) :
    Calls Try.prog 35 #[.agg #[.slice A rs.length c], .slice B N d] w fun e w' => e = .returned (.bool (isTiling rs l)) ∧ Below w.heap.size w w' := by
  (have hB := Below.refl w.heap.size w; have P := Blk.new w 31 [.slice A rs.length c]; have Pc := P.c1)
  have hr' := Lib.hid hr
  have hs' := Lib.hid hs
  have HN := Lib.hid hN
  obtain ⟨m, hm⟩ : ∃ m, m = (regCells rs).length := ⟨_, rfl⟩
  have HM := Lib.hid hm
  have H0 := Lib.hid (show isTiling rs l = (isPartial rs l && decide (2 * N = m)) by rw [isTiling_len, hN, hm])
  clear hr hs hN hm
  cases c1 : isPartial rs l
  · have C1 := Lib.hid c1
    have H := Lib.hid (show isTiling rs l = false by rw [H0.out, c1]; rfl)
    clear c1
    go_enter Try.func35, Try.ntmps35
    go_wp2_with (go_at_call 115; refine (IsPartial_s A c rs B N d l _ hl HN.out hl2 (hr'.out.below (bl_trans hB (by go_grown))) (hs'.out.below (bl_trans hB (by go_grown)))).mono ?_; rintro e wn ⟨rfl, hbn⟩; have hSz := bl_sz (bl_trans hB (by go_grown)) hbn; replace hB := bl_trans (bl_trans hB (by go_grown)) hbn; replace P := P.bel (bl_trans (by go_grown) hbn); replace Pc := P.c1; rw [C1.out]; clear hbn)
    go_ret
    exact ⟨ret_bool (by rw [H.out]), hB⟩
  · have C1 := Lib.hid c1
    have H := Lib.hid (show isTiling rs l = decide (2 * N = m) by rw [H0.out, c1]; rfl)
    clear c1
    go_enter Try.func35, Try.ntmps35
    go_wp2_with (first | (go_at_call 115; refine (IsPartial_s A c rs B N d l _ hl HN.out hl2 (hr'.out.below (bl_trans hB (by go_grown))) (hs'.out.below (bl_trans hB (by go_grown)))).mono ?_; rintro e wn ⟨rfl, hbn⟩; have hSz := bl_sz (bl_trans hB (by go_grown)) hbn; replace hB := bl_trans (bl_trans hB (by go_grown)) hbn; replace P := P.bel (bl_trans (by go_grown) hbn); replace Pc := P.c1; rw [C1.out]; clear hbn) | (go_at_call 75; refine (CountCells_s A c rs _ hl (hr'.out.below (bl_trans hB (by go_grown)))).mono ?_; rintro e wn ⟨rfl, hbn⟩; have hSz := bl_sz (bl_trans hB (by go_grown)) hbn; replace hB := bl_trans (bl_trans hB (by go_grown)) hbn; replace P := P.bel (bl_trans (by go_grown) hbn); replace Pc := P.c1; rw [← HM.out]; clear hbn))
    go_ret
    exact ⟨ret_bool (by rw [H.out, Bool.eq_iff_iff]; simp <;> omega), hB⟩
def layOK (rs : List Int) (c : Cl) (o : List Dm) (k : Nat) : Bool := match o[k]? with
  | some d => canLayR rs c (o.take k) d
  | none => true
theorem layOK_at {rs : List Int} {c : Cl} {o : List Dm} {k : Nat} {d : Dm} (h : o[k]? = some d) : layOK rs c o k = canLayR rs c (o.take k) d := by unfold layOK; rw [h]
def layOrd (rs : List Int) (c : Cl) (o : List Dm) : Bool := decide ((sortD o).length = o.length) && (isTiling rs (sortD o) && decide (∀ j < o.length, layOK rs c o j = true))
set_option maxRecDepth 100000 in
set_option maxHeartbeats 2000000 in
theorem IsLayingOrder_i (A : Option Addr) (c : Nat) (rs : List Int) (x y : Int) (B : Option Addr) (N d : Nat) (o : List Dm) (w : World) (hl : rs.length ≤ 1048576) (hN : N = o.length) (hl2 : N ≤ 1048576) (hd : N ≤ d) (hr : RdI w A rs) (hs : RdD w B o) :
    Calls Try.prog 81 #[.agg #[.slice A rs.length c], .agg #[.int .i64 x, .int .i64 y], .slice B N d] w fun e w' => e = .returned (.bool (layOrd rs (x, y) o)) ∧ Below w.heap.size w w' := by
  have hr' := Lib.hid hr
  have hs' := Lib.hid hs
  have HN := Lib.hid hN
  (have hB := Below.refl w.heap.size w; have P := (Blk.new w 31 [.slice A rs.length c]).alloc (.cells #[.int .i64 x, .int .i64 y] 35); have Pc := P.c1; have Q := Blk.new2 w (.cells #[.slice A rs.length c] 31) 35 [.int .i64 x, .int .i64 y]; have Qc := Q.c2)
  have hsl : (sortD o).length ≤ 1048576 := by have := sortD_len o; omega
  obtain ⟨m, hm⟩ : ∃ m, m = (sortD o).length := ⟨_, rfl⟩
  rw [← hm] at hsl
  have HM := Lib.hid hm
  have H0 := Lib.hid (show layOrd rs (x, y) o = (decide (m = N) && (isTiling rs (sortD o) && decide (∀ j < N, layOK rs (x, y) o j = true))) by unfold layOrd; rw [hm, hN])
  clear hr hs hN hm
  go_enter Try.func81, Try.ntmps81
  go_upto_region 2 with (go_at_call 167; refine (SortDominoes_i B N d o _ HN.out hl2 (hs'.out.below (bl_trans hB (by go_grown)))).mono ?_; rintro e wn ⟨v1, rfl, o1, hbn⟩; have hSz := bl_sz (bl_trans hB (by go_grown)) hbn; replace hB := bl_trans (bl_trans hB (by go_grown)) hbn; replace P := P.bel (bl_trans (by go_grown) hbn); replace Pc := P.c1; replace Q := Q.bel (bl_trans (by go_grown) hbn); replace Qc := Q.c2; obtain ⟨⟨A1, c9, rfl⟩, _⟩ := id o1; rw [← HM.out]; have O1 := Lib.hid o1; clear o1; clear hbn)
  by_cases c1 : m = N
  · obtain rfl : N = m := c1.symm
    clear c1
    have d1 := Lib.hid (show decide (N = N) = true from decide_eq_true rfl)
    cases c2 : isTiling rs (sortD o)
    · have C2 := Lib.hid c2
      have H := Lib.hid (show layOrd rs (x, y) o = false by rw [H0.out, c2]; simp)
      clear c2
      go_wp2_with (go_at_call 164; refine (IsTiling_i A c rs _ _ _ (sortD o) _ hl HM.out hsl (hr'.out.below (bl_trans hB (by go_grown))) (O1.out.rd.below (by go_grown))).mono ?_; rintro e wn ⟨rfl, hbn⟩; have hSz := bl_sz (bl_trans hB (by go_grown)) hbn; replace hB := bl_trans (bl_trans hB (by go_grown)) hbn; replace P := P.bel (bl_trans (by go_grown) hbn); replace Pc := P.c1; replace Q := Q.bel (bl_trans (by go_grown) hbn); replace Qc := Q.c2; rw [C2.out]; clear hbn)
      go_ret
      exact ⟨ret_bool (by rw [H.out]), hB⟩
    · have C2 := Lib.hid c2
      have H := Lib.hid (show layOrd rs (x, y) o = decide (∀ j < N, layOK rs (x, y) o j = true) by rw [H0.out, c2, d1.out]; rfl)
      clear c2
      go_wp2_with (go_at_call 164; refine (IsTiling_i A c rs _ _ _ (sortD o) _ hl HM.out hsl (hr'.out.below (bl_trans hB (by go_grown))) (O1.out.rd.below (by go_grown))).mono ?_; rintro e wn ⟨rfl, hbn⟩; have hSz := bl_sz (bl_trans hB (by go_grown)) hbn; replace hB := bl_trans (bl_trans hB (by go_grown)) hbn; replace P := P.bel (bl_trans (by go_grown) hbn); replace Pc := P.c1; replace Q := Q.bel (bl_trans (by go_grown) hbn); replace Qc := Q.c2; rw [C2.out]; clear hbn)
      have HP := Lib.hid P
      have HQ := Lib.hid Q
      clear P Q Pc Qc O1
      go_loopw [25] (fun q wr => ∃ k : Nat, k ≤ N ∧ q = .int .i64 k ∧ Hid (∀ j < k, layOK rs (x, y) o j = true) ∧ Hid (Blk wr w.heap.size 31 [.slice A rs.length c]) ∧ Hid (Blk wr (w.heap.size + 1) 35 [.int .i64 x, .int .i64 y]) ∧ Below w.heap.size w wr) (fun q _ => N - (intOf q).toNat)
      case atStart => exact ⟨0, by omega, rfl, Lib.hid (fun j hj => absurd hj (by omega)), HP, HQ, hB⟩
      case round =>
        obtain ⟨k, hk, rfl, HA, HP2, HQ2, hB'⟩ := hrel
        clear HP HQ hB
        have hB := hB'
        clear hB'
        by_cases hlt : k < N
        · obtain ⟨b, off, u, v, z, rfl, hbl, hv, _, ga, gb, c0, c1', c2⟩ := (hs'.out.below hB).at_ (k := k) (by have := HN.out; omega)
          have hlo := layOK_at (rs := rs) (c := (x, y)) hv
          have htk : k = (o.take k).length := by rw [List.length_take]; have := HN.out; omega
          have HT := Lib.hid htk
          have hp0 := HP2.out.c1
          have hq0 := HQ2.out.c2
          have hkd : (k : Int) ≤ (d : Int) := by omega
          have hk0 : (0 : Int) ≤ (k : Int) := by omega
          have hPA := HP2.out.alloc (.cells #[.int .i64 u, .int .i64 v, .bool z] 53)
          have hQA := HQ2.out.alloc (.cells #[.int .i64 u, .int .i64 v, .bool z] 53)
          have hD := Blk.new wr 53 [.int .i64 u, .int .i64 v, .bool z]
          have p0 := bq_cell hPA.c1
          have q0 := bq_cell hQA.c2.1
          have q1 := bq_cell hQA.c2.2
          have r0 := bq_cell hD.c3.1
          have r1 := bq_cell hD.c3.2.1
          have r2 := bq_cell hD.c3.2.2
          have hX := bl_alloc hB (.cells #[.int .i64 u, .int .i64 v, .bool z] 53)
          have htake := Lib.hid (((hs'.out.below hX).take_ (k := k) (by have := HN.out; omega)))
          cases t1 : canLayR rs (x, y) (o.take k) (u, v, z)
          · have T1 := Lib.hid t1
            have H2 := Lib.hid (show layOrd rs (x, y) o = false by
              rw [H.out]; exact decide_eq_false fun h => by have := h k hlt; rw [hlo, t1] at this; cases this)
            clear t1 hlo hv htk hp0 hq0
            go_wp2_with fail
            (refine wp_region_quiet_bel (by kernel_rfl) (by kernel_rfl) ?_; (repeat (first | go_big_quiet_step ((go_at_call 83; exact Calls.bel_of ((CanLay_i A c rs x y _ k _ (o.take k) u v z _ hl HT.out (by omega) (hr'.out.below (bl_trans hX (BelowOf.bel _))) (htake.out.below (BelowOf.bel _))).mono (fun e w' h => ⟨h.1.trans (ret_bool T1.out), h.2⟩)))) | quiet_step ((go_at_call 83; exact Calls.bel_of ((CanLay_i A c rs x y _ k _ (o.take k) u v z _ hl HT.out (by omega) (hr'.out.below (bl_trans hX (BelowOf.bel _))) (htake.out.below (BelowOf.bel _))).mono (fun e w' h => ⟨h.1.trans (ret_bool T1.out), h.2⟩)))))); refine wpQuiet_nil ?_; intro wq hw0; obtain ⟨⟨_, hbq⟩, hw1⟩ := hw0; subst hw1; try dsimp only)
            go_wp2_with fail
            go_ret
            exact ⟨ret_bool (by rw [H2.out]), bl_trans hX hbq⟩
          · have T1 := Lib.hid t1
            have H2 := Lib.hid (show ∀ j < k + 1, layOK rs (x, y) o j = true by
              intro j hj
              rcases Nat.lt_or_ge j k with h | h
              · exact HA.out j h
              · rw [show j = k by omega, hlo, t1])
            clear t1 hlo hv htk hp0 hq0
            go_wp2_with fail
            (refine wp_region_quiet_bel (by kernel_rfl) (by kernel_rfl) ?_; (repeat (first | go_big_quiet_step ((go_at_call 83; exact Calls.bel_of ((CanLay_i A c rs x y _ k _ (o.take k) u v z _ hl HT.out (by omega) (hr'.out.below (bl_trans hX (BelowOf.bel _))) (htake.out.below (BelowOf.bel _))).mono (fun e w' h => ⟨h.1.trans (ret_bool T1.out), h.2⟩)))) | quiet_step ((go_at_call 83; exact Calls.bel_of ((CanLay_i A c rs x y _ k _ (o.take k) u v z _ hl HT.out (by omega) (hr'.out.below (bl_trans hX (BelowOf.bel _))) (htake.out.below (BelowOf.bel _))).mono (fun e w' h => ⟨h.1.trans (ret_bool T1.out), h.2⟩)))))); refine wpQuiet_nil ?_; intro wq hw0; obtain ⟨⟨_, hbq⟩, hw1⟩ := hw0; subst hw1; try dsimp only)
            go_wp2_with fail
            go_roundw
            case rel => exact ⟨k + 1, by omega, by go_num, H2, Lib.hid (hPA.bel hbq), Lib.hid (hQA.bel hbq), bl_trans hX hbq⟩
            case measure => simp [intOf]; omega
        · have H2 := Lib.hid (show layOrd rs (x, y) o = true by rw [H.out]; exact decide_eq_true fun j hj => HA.out j (by omega))
          go_wp2_with fail
          go_ret
          exact ⟨ret_bool (by rw [H2.out]), hB⟩
  · have H := Lib.hid (show layOrd rs (x, y) o = false by rw [H0.out, decide_eq_false c1]; rfl)
    have c1' : ¬ ((m : Nat) : Int) = ((N : Nat) : Int) := by omega
    go_wp2_with fail
    go_ret
    exact ⟨ret_bool (by rw [H.out]), hB⟩
end Go.Proofs.Ytdcjhfmkkcakhaa

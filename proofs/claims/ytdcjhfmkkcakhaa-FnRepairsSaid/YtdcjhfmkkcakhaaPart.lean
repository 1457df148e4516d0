/-
  Contracts of IsPartial and IsTiling (both): what each returns, as a function of its arguments; nothing that was there is written; at most 1048576 dominoes.
-/
import Derived.Test.YtdcjhfmkkcakhaaSort
import Derived.Test.YtdcjhfmkkcakhaaCover
import Derived.Test.YtdcjhfmkkcakhaaChanged
namespace Go.Proofs.Ytdcjhfmkkcakhaa
open Go.ChangeShapes Go.WideShapes Go.ChangeAt Go.RowKit Go.Deep
set_option linter.unusedVariables false

def ownD (d : Dm) : Nat := setD d.1 d.2.1 d.2.2
def takeP : Nat → Option Dm → List Dm → Option Nat
  | s, _, [] => some s
  | s, pr, d :: l => if okD d && (s &&& ownD d == ownD d) && (match pr with | none => true | some e => befD e d) then takeP (bdiff s (ownD d)) (some d) l else none
def prevD (l : List Dm) (k : Nat) : Option Dm := if k = 0 then none else l[k - 1]?
def isPartial (rs : List Int) (l : List Dm) : Bool := regOk rs && (takeP (regSet rs) none l).isSome
def isTiling (rs : List Int) (l : List Dm) : Bool := regOk rs && (takeP (regSet rs) none l == some 0)
theorem takeP_step {s k : Nat} {l : List Dm} {d : Dm} (h : l[k]? = some d) : takeP s (prevD l k) (l.drop k) = if okD d && (s &&& ownD d == ownD d) && (match prevD l k with | none => true | some e => befD e d) then takeP (bdiff s (ownD d)) (prevD l (k + 1)) (l.drop (k + 1)) else none := by
  have : prevD l (k + 1) = some d := by simp [prevD, h]
  rw [drop_at h, this]
  rfl
theorem prevD_zero (l : List Dm) : prevD l 0 = none := rfl
theorem prevD_succ {l : List Dm} {j : Nat} {e : Dm} (h : l[j]? = some e) : prevD l (j + 1) = some e := by simp [prevD, h]
theorem ownD_lt {d : Dm} (h : okD d = true) : ownD d < 18446744073709551616 := setD_lt h
theorem part_no {rs : List Int} {l : List Dm} {s k : Nat} {d : Dm} (hT : takeP (regSet rs) none l = takeP s (prevD l k) (l.drop k)) (h : l[k]? = some d) (hn : okD d = false ∨ s &&& ownD d ≠ ownD d ∨ (∃ e, prevD l k = some e ∧ befD e d = false)) : isPartial rs l = false ∧ takeP (regSet rs) none l = none := by
  have e : takeP (regSet rs) none l = none := by
    rw [hT, takeP_step h]
    rcases hn with hn | hn | ⟨e, h1, h2⟩
    · simp [hn]
    · simp [hn]
    · rw [h1]; simp [h2]
  exact ⟨by rw [isPartial, e]; simp, e⟩
theorem dset_d (x y : Int) (z : Bool) (o : Nat) (w : World) (h : okD (x, y, z) = true) (ho : ownD (x, y, z) = o) :
    Calls Try.prog 190 #[.agg #[.int .i64 x, .int .i64 y, .bool z]] w fun e w' => e = .returned (.int .u64 (o : Int)) ∧ Below w.heap.size w w' := by
  subst ho; exact dset_any x y z w h
set_option maxRecDepth 100000 in
set_option maxHeartbeats 1000000 in
theorem IsPartial_i (A : Option Addr) (c : Nat) (rs : List Int) (B : Option Addr) (N d : Nat) (l : List Dm) (w : World) (hl : rs.length ≤ 1048576) (hN : N = l.length) (hl2 : N ≤ 1048576) (hr : RdI w A rs) (hs : RdD w B l) :
    Calls Try.prog 170 #[.agg #[.slice A rs.length c], .slice B N d] w fun e w' => e = .returned (.bool (isPartial rs l)) ∧ Below w.heap.size w w' := by
  (have hB := Below.refl w.heap.size w; have P := Blk.new w 31 [.slice A rs.length c]; have Pc := P.c1)
  have hr' := Lib.hid hr
  have hs' := Lib.hid hs
  have HN := Lib.hid hN
  clear hr hs hN
  cases h : regOk rs
  · have hv := Lib.hid (show isPartial rs l = false by rw [isPartial, h]; rfl)
    go_enter Try.func170, Try.ntmps170
    go_wp2_with (go_at_call 98; refine (RegionOk_i A c rs _ hl (hr'.out.below (bl_trans hB (by go_grown)))).mono ?_; rintro e wn ⟨rfl, hbn⟩; have hSz := bl_sz (bl_trans hB (by go_grown)) hbn; replace hB := bl_trans (bl_trans hB (by go_grown)) hbn; replace P := P.bel (bl_trans (by go_grown) hbn); replace Pc := P.c1; clear hbn)
    go_ret
    exact ⟨ret_bool (by rw [hv.out]), (by first | (go_grown; done) | exact bl_trans hB (by go_grown))⟩
  · have h' := Lib.hid h
    go_enter Try.func170, Try.ntmps170
    go_wp2_with (first | (go_at_call 98; refine (RegionOk_i A c rs _ hl (hr'.out.below (bl_trans hB (by go_grown)))).mono ?_; rintro e wn ⟨rfl, hbn⟩; have hSz := bl_sz (bl_trans hB (by go_grown)) hbn; replace hB := bl_trans (bl_trans hB (by go_grown)) hbn; replace P := P.bel (bl_trans (by go_grown) hbn); replace Pc := P.c1; clear hbn) | (go_at_call 121; refine (rset_any A c rs _ h'.out (hr'.out.below (bl_trans hB (by go_grown)))).mono ?_; rintro e wn ⟨rfl, hbn⟩; have hSz := bl_sz (bl_trans hB (by go_grown)) hbn; replace hB := bl_trans (bl_trans hB (by go_grown)) hbn; clear hbn))
    go_loopw [5, 15] (fun v i wr => ∃ k : Nat, ∃ s : Nat, k ≤ N ∧ i = .int .i64 k ∧ v = .int .u64 (s : Int) ∧ s < 18446744073709551616 ∧ Hid (takeP (regSet rs) none l = takeP s (prevD l k) (l.drop k)) ∧ Below w.heap.size w wr) (fun _ i _ => N - (intOf i).toNat)
    case atStart => exact ⟨0, regSet rs, by omega, rfl, rfl, regSet_lt h'.out, Lib.hid rfl, hB⟩
    case round =>
      obtain ⟨k, s, hk, rfl, rfl, hsl, HT, hBr⟩ := hrel
      clear hB P Pc
      have hB := hBr
      clear hBr
      by_cases hlt : k < N
      · obtain ⟨b, off, x, y, z, rfl, hbl, hv, hd, ga, gb, c0, c1, c2⟩ := (hs'.out.below hB).at_ (k := k) (by have := HN.out; omega)
        have HV := Lib.hid hv
        have P := Blk.new wr 53 [.int .i64 x, .int .i64 y, .bool z]
        have Pc := P.c3
        have p0 := bq_cell Pc.1
        have p1 := bq_cell Pc.2.1
        have p2 := bq_cell Pc.2.2
        replace hB := bl_alloc hB (.cells #[.int .i64 x, .int .i64 y, .bool z] 53)
        clear hv hd
        cases c3 : domOk x y z
        · have hv := Lib.hid (part_no HT.out HV.out (.inl c3)).1
          go_wp2_with fail
          (refine wp_region_quiet_bel (by kernel_rfl) (by kernel_rfl) ?_; (repeat (first | go_big_quiet_step ((go_at_call 143; exact Calls.bel_of (DominoOk_i _ _ _ _))) | quiet_step ((go_at_call 143; exact Calls.bel_of (DominoOk_i _ _ _ _))))); refine wpQuiet_nil ?_; intro wq hw0; obtain ⟨⟨_, hbq⟩, hw1⟩ := hw0; subst hw1; try dsimp only)
          go_wp2_with fail
          go_ret
          exact ⟨ret_bool (by rw [hv.out]), bl_trans hB hbq⟩
        · have o1 : okD (x, y, z) = true := c3
          have O1 := Lib.hid o1
          have hol := ownD_lt o1
          obtain ⟨o, ho⟩ : ∃ o, o = ownD (x, y, z) := ⟨_, rfl⟩
          rw [← ho] at hol
          have HO := Lib.hid ho
          have hand := u64_and_nat s o hsl hol
          have handn := u64_andNot_nat s o hsl hol
          clear ho
          by_cases c4 : s &&& o = o
          · have hne : (bits BinOp.and IntKind.u64 (s : Int) (o : Int) != (o : Int)) = false := by rw [hand, c4]; simp
            have C4 := Lib.hid c4
            clear c4 hand
            rcases Nat.eq_zero_or_pos k with h0 | h0
            · subst h0
              simp only [Nat.zero_mul, Nat.add_zero] at c0 c1 c2
              have hdz : decide ((0 : Int) < ((0 : Nat) : Int)) = false := by decide
              have hnx := Lib.hid (show takeP (regSet rs) none l = takeP (bdiff s o) (prevD l (0 + 1)) (l.drop (0 + 1)) by
                rw [HT.out, takeP_step HV.out, prevD_zero, ← HO.out, C4.out, O1.out]; simp)
              go_wp2_with fail
              (refine wp_region_quiet_bel (by kernel_rfl) (by kernel_rfl) ?_; (repeat (first | go_big_quiet_step (first | (go_at_call 143; exact Calls.bel_of (DominoOk_i _ _ _ _)) | (go_at_call 190; exact Calls.bel_of (dset_d _ _ _ o _ O1.out HO.out.symm))) | quiet_step (first | (go_at_call 143; exact Calls.bel_of (DominoOk_i _ _ _ _)) | (go_at_call 190; exact Calls.bel_of (dset_d _ _ _ o _ O1.out HO.out.symm))))); refine wpQuiet_nil ?_; intro wq hw0; obtain ⟨⟨_, hbq⟩, hw1⟩ := hw0; subst hw1; try dsimp only)
              have P2 := P.bel hbq
              have P2c := P2.c3
              replace hB := bl_trans hB hbq
              clear p0 p1 p2
              go_wp2_with (go_at_call 190; refine (dset_d _ _ _ o _ O1.out HO.out.symm).mono ?_; rintro e wn ⟨rfl, hbn⟩; have hSz := bl_sz (bl_trans hB (by go_grown)) hbn; replace hB := bl_trans (bl_trans hB (by go_grown)) hbn; skip; clear hbn)
              go_roundw
              case rel => exact ⟨0 + 1, bdiff s o, by omega, by go_num, by rfl, bdiff_lt hsl, hnx, hB⟩
              case measure => simp [intOf]; omega
            · obtain ⟨j, rfl⟩ : ∃ j, k = j + 1 := ⟨k - 1, by omega⟩
              have hdz : decide ((0 : Int) < ((j + 1 : Nat) : Int)) = true := by simp <;> omega
              obtain ⟨b5, off5, a1, a2, a3, hA5, hbl5, hv5, _, _, _, e0, e1, e2⟩ := (hs'.out.below hB).at_ (k := j) (by have := HN.out; omega)
              injection hA5 with hA5
              injection hA5 with hA5 hA6
              subst hA5
              subst hA6
              have q0 := bq_cell e0
              have q1 := bq_cell e1
              have q2 := bq_cell e2
              have hpv := prevD_succ hv5
              have HPV := Lib.hid hpv
              have hli : j < N := by omega
              clear hv5 hpv e0 e1 e2 h0
              cases c5 : befD (a1, a2, a3) (x, y, z)
              · have C5 := Lib.hid c5
                have hv := Lib.hid (part_no HT.out HV.out (.inr (.inr ⟨_, HPV.out, c5⟩))).1
                clear c5
                go_wp2_with fail
                (refine wp_region_quiet_bel (by kernel_rfl) (by kernel_rfl) ?_; (repeat (first | go_big_quiet_step (first | (go_at_call 143; exact Calls.bel_of (DominoOk_i _ _ _ _)) | (go_at_call 190; exact Calls.bel_of (dset_d _ _ _ o _ O1.out HO.out.symm)) | (go_at_call 201; exact Calls.bel_of ((IsDominoBefore_i a1 a2 a3 x y z _).mono (fun e w' h => ⟨h.1.trans (ret_bool C5.out), h.2⟩)))) | quiet_step (first | (go_at_call 143; exact Calls.bel_of (DominoOk_i _ _ _ _)) | (go_at_call 190; exact Calls.bel_of (dset_d _ _ _ o _ O1.out HO.out.symm)) | (go_at_call 201; exact Calls.bel_of ((IsDominoBefore_i a1 a2 a3 x y z _).mono (fun e w' h => ⟨h.1.trans (ret_bool C5.out), h.2⟩)))))); refine wpQuiet_nil ?_; intro wq hw0; obtain ⟨⟨_, hbq⟩, hw1⟩ := hw0; subst hw1; try dsimp only)
                go_wp2_with fail
                go_ret
                exact ⟨ret_bool (by rw [hv.out]), bl_trans hB hbq⟩
              · have C5 := Lib.hid c5
                have hnx := Lib.hid (show takeP (regSet rs) none l = takeP (bdiff s o) (prevD l (j + 1 + 1)) (l.drop (j + 1 + 1)) by
                  rw [HT.out, takeP_step HV.out, HPV.out, ← HO.out, C4.out, O1.out]; simp [c5])
                clear c5
                go_wp2_with fail
                (refine wp_region_quiet_bel (by kernel_rfl) (by kernel_rfl) ?_; (repeat (first | go_big_quiet_step (first | (go_at_call 143; exact Calls.bel_of (DominoOk_i _ _ _ _)) | (go_at_call 190; exact Calls.bel_of (dset_d _ _ _ o _ O1.out HO.out.symm)) | (go_at_call 201; exact Calls.bel_of ((IsDominoBefore_i a1 a2 a3 x y z _).mono (fun e w' h => ⟨h.1.trans (ret_bool C5.out), h.2⟩)))) | quiet_step (first | (go_at_call 143; exact Calls.bel_of (DominoOk_i _ _ _ _)) | (go_at_call 190; exact Calls.bel_of (dset_d _ _ _ o _ O1.out HO.out.symm)) | (go_at_call 201; exact Calls.bel_of ((IsDominoBefore_i a1 a2 a3 x y z _).mono (fun e w' h => ⟨h.1.trans (ret_bool C5.out), h.2⟩)))))); refine wpQuiet_nil ?_; intro wq hw0; obtain ⟨⟨_, hbq⟩, hw1⟩ := hw0; subst hw1; try dsimp only)
                have P2 := P.bel hbq
                have P2c := P2.c3
                replace hB := bl_trans hB hbq
                clear p0 p1 p2 q0 q1 q2
                go_wp2_with (go_at_call 190; refine (dset_d _ _ _ o _ O1.out HO.out.symm).mono ?_; rintro e wn ⟨rfl, hbn⟩; have hSz := bl_sz (bl_trans hB (by go_grown)) hbn; replace hB := bl_trans (bl_trans hB (by go_grown)) hbn; skip; clear hbn)
                go_roundw
                case rel => exact ⟨j + 1 + 1, bdiff s o, by omega, by go_num, by rfl, bdiff_lt hsl, hnx, hB⟩
                case measure => simp [intOf]; omega
          · have hne : (bits BinOp.and IntKind.u64 (s : Int) (o : Int) != (o : Int)) = true := by rw [hand]; simp only [bne_iff_ne, ne_eq]; omega
            have hv := Lib.hid (part_no HT.out HV.out (.inr (.inl (by rw [← HO.out]; exact c4)))).1
            clear c4 hand handn
            go_wp2_with fail
            (refine wp_region_quiet_bel (by kernel_rfl) (by kernel_rfl) ?_; (repeat (first | go_big_quiet_step (first | (go_at_call 143; exact Calls.bel_of (DominoOk_i _ _ _ _)) | (go_at_call 190; exact Calls.bel_of (dset_d _ _ _ o _ O1.out HO.out.symm))) | quiet_step (first | (go_at_call 143; exact Calls.bel_of (DominoOk_i _ _ _ _)) | (go_at_call 190; exact Calls.bel_of (dset_d _ _ _ o _ O1.out HO.out.symm))))); refine wpQuiet_nil ?_; intro wq hw0; obtain ⟨⟨_, hbq⟩, hw1⟩ := hw0; subst hw1; try dsimp only)
            go_wp2_with fail
            go_ret
            exact ⟨ret_bool (by rw [hv.out]), bl_trans hB hbq⟩
      · have hv := Lib.hid (show isPartial rs l = true by
          rw [isPartial, h'.out, HT.out, List.drop_eq_nil_of_le (by have := HN.out; omega)]; rfl)
        go_wp2_with fail
        go_ret
        exact ⟨ret_bool (by rw [hv.out]), hB⟩
theorem cellIdx_nat {x y : Int} (h : cellOk x y = true) : cellIdx x y = (idxN (x, y) : Int) := by
  have := cellOk_iff.1 h
  unfold cellIdx idxN
  rw [if_pos h]; dsimp only; omega
def regS (rs : List Int) : Nat := if regOk rs then regSet rs else 0
theorem regS_lt (rs : List Int) : regS rs < 18446744073709551616 := by
  unfold regS; split
  · rename_i h; exact regSet_lt h
  · decide
theorem isPartial_S (rs : List Int) (l : List Dm) : isPartial rs l = (regOk rs && (takeP (regS rs) none l).isSome) := by
  unfold isPartial regS
  cases regOk rs <;> rfl
theorem part_false {rs : List Int} {l : List Dm} {S : Nat} (hS : regS rs = S) (h : takeP S none l = none) : isPartial rs l = false := by rw [isPartial_S, hS, h]; simp
theorem HasCell_S {rs : List Int} {x y : Int} (hc : cellOk x y = true) : (regOk rs && cellOk x y && regHas rs x y) = (regS rs).testBit (idxN (x, y)) := by
  cases h : regOk rs
  · simp [regS, h]
  · have := HasCell_bit h hc
    rw [h] at this
    rw [this, regS, if_pos h]
theorem takeP_none {S s k : Nat} {l : List Dm} {d : Dm} (hT : takeP S none l = takeP s (prevD l k) (l.drop k)) (h : l[k]? = some d) (hn : okD d = false ∨ s &&& ownD d ≠ ownD d ∨ (∃ e, prevD l k = some e ∧ befD e d = false)) : takeP S none l = none := by
  rw [hT, takeP_step h]
  rcases hn with hn | hn | ⟨e, h1, h2⟩
  · simp [hn]
  · simp [hn]
  · rw [h1]; simp [h2]
theorem own_no {S U o : Nat} (hS : S < 18446744073709551616) (hU : U < 18446744073709551616) (ho : o < 18446744073709551616) (h : ∃ n, o.testBit n = true ∧ (S.testBit n = false ∨ U.testBit n = true)) : bdiff S U &&& o ≠ o := by
  intro e
  obtain ⟨n, h1, h2⟩ := h
  have := sub_bit e n h1
  rw [bdiff_bit hS hU] at this
  rcases h2 with h2 | h2 <;> simp [h2] at this
theorem own_yes {S U o n1 n2 : Nat} (hS : S < 18446744073709551616) (hU : U < 18446744073709551616) (ho : o = 2 ^ n1 ||| 2 ^ n2) (h1 : (S.testBit n1 && !U.testBit n1) = true) (h2 : (S.testBit n2 && !U.testBit n2) = true) : bdiff S U &&& o = o := by
  refine sub_of_bits fun i hi => ?_
  rw [bdiff_bit hS hU]
  rw [ho, Nat.testBit_or, Nat.testBit_two_pow, Nat.testBit_two_pow] at hi
  simp only [Bool.or_eq_true, decide_eq_true_eq] at hi
  rcases hi with rfl | rfl
  · exact h1
  · exact h2
theorem dom_idx {x y : Int} {z : Bool} (h : domOk x y z = true) : idxN (x, y) ≠ idxN (sndX x z, sndY y z) := by
  have h1 := cellOk_iff.1 (domOk_cells h).1
  have h2 := cellOk_iff.1 (domOk_cells h).2
  intro e
  have := idxN_inj (c := (x, y)) (d := (sndX x z, sndY y z)) (domOk_cells h).1 (domOk_cells h).2 e
  injection this with e1 e2
  cases z
  · simp only [sndX] at e1; simp [wrap64] at e1; omega
  · simp only [sndY] at e2; simp [wrap64] at e2; omega
theorem card_own {x y : Int} {z : Bool} (h : domOk x y z = true) : card (setD x y z) = 2 := by
  have := card_setL (cs := [(x, y), (sndX x z, sndY y z)]) (by
    intro c hc
    simp only [List.mem_cons, List.not_mem_nil, or_false] at hc
    rcases hc with rfl | rfl
    · exact (domOk_cells h).1
    · exact (domOk_cells h).2) (by
    rw [List.nodup_cons]
    refine ⟨fun hm => ?_, by simp⟩
    rw [List.mem_singleton] at hm
    exact dom_idx h (by rw [hm]))
  have e : setL [(x, y), (sndX x z, sndY y z)] = setD x y z := by unfold setL setD; simp
  rw [e] at this
  exact this
set_option maxRecDepth 100000 in
set_option maxHeartbeats 2000000 in
theorem IsPartial_s (A : Option Addr) (c : Nat) (rs : List Int) (B : Option Addr) (N d : Nat) (l : List Dm) (w : World) (hl : rs.length ≤ 1048576) (hN : N = l.length) (hl2 : N ≤ 1048576) (hr : RdI w A rs) (hs : RdD w B l) :
    Calls Try.prog 115 #[.agg #[.slice A rs.length c], .slice B N d] w fun e w' => e = .returned (.bool (isPartial rs l)) ∧ Below w.heap.size w w' := by
  have hmk : ∀ w : World, (Instr.makeSlice 119 (.int .i64 64) (.int .i64 64)).run Try.prog w = .ok (.slice (some ⟨w.heap.size, 0, none⟩) 64 64) (w.alloc (.cells (madeCells #[.bool false] 64) 4)) := run_make_row' (P := Try.prog) 119 4 (.bool false) 1 Try.underlying119 info_bool rfl .i64 .i64 64 (by omega) (by omega)
  have hr' := Lib.hid hr
  have hs' := Lib.hid hs
  have HN := Lib.hid hN
  have hB0 := bl_alloc (bl_alloc (Below.refl w.heap.size w) (.cells #[.slice A rs.length c] 31)) (.cells (List.replicate 64 (.bool false)).toArray 4)
  have P0 := (Blk.new w 31 [.slice A rs.length c]).alloc (.cells (List.replicate 64 (.bool false)).toArray 4)
  have M0 := Blk.new2 w (.cells #[.slice A rs.length c] 31) 4 (mkB 0)
  rw [mkB_zero] at M0
  have hSlt := regS_lt rs
  obtain ⟨S, hS⟩ : ∃ S, S = regS rs := ⟨_, rfl⟩
  rw [← hS] at hSlt
  have HSE := Lib.hid hS
  clear hr hs hN hS
  go_enter Try.func115, Try.ntmps115
  go_wp2_with fail
  rw [made_list]
  go_loopw [6] (fun q wr => ∃ k U : Nat, k ≤ N ∧ q = .int .i64 k ∧ U < 18446744073709551616 ∧ Hid (takeP S none l = takeP (bdiff S U) (prevD l k) (l.drop k)) ∧ Hid (card (bdiff S U) + 2 * k = card S) ∧ Hid (Blk wr (w.heap.size + 1) 4 (mkB U)) ∧ Hid (Blk wr w.heap.size 31 [.slice A rs.length c]) ∧ Below w.heap.size w wr) (fun q _ => N - (intOf q).toNat)
  case atStart => exact ⟨0, 0, by omega, rfl, by omega, Lib.hid (by rw [bdiff_zero _ hSlt]; rfl), Lib.hid (by rw [bdiff_zero _ hSlt]; omega), Lib.hid (by rw [mkB_zero]; exact M0), Lib.hid P0, hB0⟩
  case round =>
    obtain ⟨k, U, hk, rfl, hUl, HT, HC, HM, HP, hB⟩ := hrel
    clear hB0 P0 M0 hmk
    by_cases hlt : k < N
    · obtain ⟨b, off, x, y, z, rfl, hbl, hv0, hd, ga, gb, c0, c1, c2⟩ := (hs'.out.below hB).at_ (k := k) (by have := HN.out; omega)
      have HV := Lib.hid hv0
      have q0 := bq_cell c0
      have q1 := bq_cell c1
      have q2 := bq_cell c2
      clear hv0 hd
      cases c3 : domOk x y z
      · have hv := Lib.hid (part_false HSE.out.symm (takeP_none HT.out HV.out (.inl c3)))
        go_wp2_with fail
        (refine wp_region_quiet_bel (by kernel_rfl) (by kernel_rfl) ?_; (repeat (first | go_big_quiet_step ((go_at_call 168; exact Calls.bel_of (DominoOk_s _ _ _ _))) | quiet_step ((go_at_call 168; exact Calls.bel_of (DominoOk_s _ _ _ _))))); refine wpQuiet_nil ?_; intro wq hw0; obtain ⟨⟨_, hbq⟩, hw1⟩ := hw0; subst hw1; try dsimp only)
        go_wp2_with fail
        go_ret
        exact ⟨ret_bool (by rw [hv.out]), bl_trans hB hbq⟩
      · have OK := Lib.hid c3
        have o1 : okD (x, y, z) = true := c3
        have O1 := Lib.hid o1
        have hol := ownD_lt o1
        obtain ⟨k1, k2⟩ := domOk_cells c3
        obtain ⟨o, ho⟩ : ∃ o, o = ownD (x, y, z) := ⟨_, rfl⟩
        rw [← ho] at hol
        obtain ⟨n1, hn1⟩ : ∃ n1, n1 = idxN (x, y) := ⟨_, rfl⟩
        obtain ⟨n2, hn2⟩ : ∃ n2, n2 = idxN (sndX x z, sndY y z) := ⟨_, rfl⟩
        have hb1 : n1 < 64 := by rw [hn1]; exact idxN_lt k1
        have hb2 : n2 < 64 := by rw [hn2]; exact idxN_lt k2
        have HB1 := Lib.hid (show (regOk rs && cellOk x y && regHas rs x y) = (regS rs).testBit n1 by rw [hn1]; exact HasCell_S k1)
        have HB2 := Lib.hid (show (regOk rs && cellOk (sndX x z) (sndY y z) && regHas rs (sndX x z) (sndY y z)) = (regS rs).testBit n2 by rw [hn2]; exact HasCell_S k2)
        have HO3 := Lib.hid (show ownD (x, y, z) = 2 ^ n1 ||| 2 ^ n2 by rw [hn1, hn2]; rfl)
        have HO1 := Lib.hid (show o.testBit n1 = true by rw [ho, HO3.out, Nat.testBit_or, Nat.testBit_two_pow_self]; rfl)
        have HO2 := Lib.hid (show o.testBit n2 = true by rw [ho, HO3.out, Nat.testBit_or, Nat.testBit_two_pow_self]; simp)
        have HCO := Lib.hid (show card o = 2 by rw [ho]; exact card_own c3)
        have I1 := Lib.hid (show cellIdx x y = (n1 : Int) by rw [hn1]; exact cellIdx_nat k1)
        have I2 := Lib.hid (show cellIdx (sndX x z) (sndY y z) = (n2 : Int) by rw [hn2]; exact cellIdx_nat k2)
        have HO := Lib.hid ho
        have hol' := hol
        clear k1 k2 hn1 hn2 ho
        rcases Nat.eq_zero_or_pos k with h0 | h0
        · subst h0
          simp only [Nat.zero_mul, Nat.add_zero] at c0 c1 c2 q0 q1 q2
          have hdz : decide ((0 : Int) < ((0 : Nat) : Int)) = false := by decide
          go_wp2_with fail
          (refine wp_region_quiet_bel (by kernel_rfl) (by kernel_rfl) ?_; (repeat (first | go_big_quiet_step ((go_at_call 168; exact Calls.bel_of (DominoOk_s _ _ _ _))) | quiet_step ((go_at_call 168; exact Calls.bel_of (DominoOk_s _ _ _ _))))); refine wpQuiet_nil ?_; intro wq hw0; obtain ⟨⟨_, hbq⟩, hw1⟩ := hw0; subst hw1; try dsimp only)
          replace hB := bl_trans hB hbq
          have M := HM.out.bel hbq
          have P := HP.out.bel hbq
          have Pc := P.c1
          have f0 := q0 ⟨wq, hbq⟩
          have f1 := q1 ⟨wq, hbq⟩
          have f2 := q2 ⟨wq, hbq⟩
          dsimp only at f0 f1 f2
          clear q0 q1 q2
          cases u1 : S.testBit n1
          · have H1 := Lib.hid (HB1.out.trans (HSE.out ▸ u1))
            have hv := Lib.hid (part_false HSE.out.symm (takeP_none HT.out HV.out (.inr (.inl (by rw [← HO.out]; exact own_no hSlt hUl hol' ⟨n1, HO1.out, .inl u1⟩)))))
            clear u1
            go_wp2_with fail
            (refine (CellsUnder_yes x y z _ OK.out).mono ?_; rintro e wn ⟨rfl, hbn⟩; have hSz := bl_sz (bl_trans hB (by go_grown)) hbn; replace hB := bl_trans (bl_trans hB (by go_grown)) hbn; replace P := P.bel (bl_trans (by go_grown) hbn); replace Pc := P.c1; replace M := M.bel hbn; have hM := M.lt; (have E := (Blk.new wn 35 [.int .i64 x, .int .i64 y]).alloc (.cells #[.int .i64 (sndX x z), .int .i64 (sndY y z)] 35); have Ec := E.c2; have F := Blk.new2 wn (.cells #[.int .i64 x, .int .i64 y] 35) 35 [.int .i64 (sndX x z), .int .i64 (sndY y z)]; have Fc := F.c2); replace M := (M.alloc (.cells #[.int .i64 x, .int .i64 y] 35)).alloc (.cells #[.int .i64 (sndX x z), .int .i64 (sndY y z)] 35); replace P := (P.alloc (.cells #[.int .i64 x, .int .i64 y] 35)).alloc (.cells #[.int .i64 (sndX x z), .int .i64 (sndY y z)] 35); replace Pc := P.c1; have hwn := hB.size; clear hbn)
            go_wp2_with (first | (go_at_call 84; refine (HasCell_s A c rs _ _ _ hl (hr'.out.below (bl_trans hB (by go_grown)))).mono ?_; rintro e wn ⟨rfl, hbn⟩; have hSz := bl_sz (bl_trans hB (by go_grown)) hbn; replace hB := bl_trans (bl_trans hB (by go_grown)) hbn; replace P := P.bel (bl_trans (by go_grown) hbn); replace Pc := P.c1; replace E := E.bel (bl_trans (by go_grown) hbn); replace Ec := E.c2; replace F := F.bel (bl_trans (by go_grown) hbn); replace Fc := F.c2; (try rw [H1.out]); (try rw [H2.out]); replace M := M.bel hbn; have m1 := M.getB hb1; have m2 := M.getB hb2; (try rw [T1.out] at m1); (try rw [T2.out] at m2); clear hbn) | (go_at_call 180; refine (CellIndex_s _ _ _).mono ?_; rintro e wn ⟨rfl, hbn⟩; have hSz := bl_sz (bl_trans hB (by go_grown)) hbn; replace hB := bl_trans (bl_trans hB (by go_grown)) hbn; replace P := P.bel (bl_trans (by go_grown) hbn); replace Pc := P.c1; replace E := E.bel (bl_trans (by go_grown) hbn); replace Ec := E.c2; replace F := F.bel (bl_trans (by go_grown) hbn); replace Fc := F.c2; (try rw [I1.out]); (try rw [I2.out]); replace M := M.bel hbn; have m1 := M.getB hb1; have m2 := M.getB hb2; (try rw [T1.out] at m1); (try rw [T2.out] at m2); clear hbn))
            go_ret
            exact ⟨ret_bool (by rw [hv.out]), bl_trans hB (by go_grown)⟩
          · have H1 := Lib.hid (HB1.out.trans (HSE.out ▸ u1))
            cases u2 : S.testBit n2
            · have H2 := Lib.hid (HB2.out.trans (HSE.out ▸ u2))
              have hv := Lib.hid (part_false HSE.out.symm (takeP_none HT.out HV.out (.inr (.inl (by rw [← HO.out]; exact own_no hSlt hUl hol' ⟨n2, HO2.out, .inl u2⟩)))))
              clear u1 u2
              go_wp2_with fail
              (refine (CellsUnder_yes x y z _ OK.out).mono ?_; rintro e wn ⟨rfl, hbn⟩; have hSz := bl_sz (bl_trans hB (by go_grown)) hbn; replace hB := bl_trans (bl_trans hB (by go_grown)) hbn; replace P := P.bel (bl_trans (by go_grown) hbn); replace Pc := P.c1; replace M := M.bel hbn; have hM := M.lt; (have E := (Blk.new wn 35 [.int .i64 x, .int .i64 y]).alloc (.cells #[.int .i64 (sndX x z), .int .i64 (sndY y z)] 35); have Ec := E.c2; have F := Blk.new2 wn (.cells #[.int .i64 x, .int .i64 y] 35) 35 [.int .i64 (sndX x z), .int .i64 (sndY y z)]; have Fc := F.c2); replace M := (M.alloc (.cells #[.int .i64 x, .int .i64 y] 35)).alloc (.cells #[.int .i64 (sndX x z), .int .i64 (sndY y z)] 35); replace P := (P.alloc (.cells #[.int .i64 x, .int .i64 y] 35)).alloc (.cells #[.int .i64 (sndX x z), .int .i64 (sndY y z)] 35); replace Pc := P.c1; have hwn := hB.size; clear hbn)
              go_wp2_with (first | (go_at_call 84; refine (HasCell_s A c rs _ _ _ hl (hr'.out.below (bl_trans hB (by go_grown)))).mono ?_; rintro e wn ⟨rfl, hbn⟩; have hSz := bl_sz (bl_trans hB (by go_grown)) hbn; replace hB := bl_trans (bl_trans hB (by go_grown)) hbn; replace P := P.bel (bl_trans (by go_grown) hbn); replace Pc := P.c1; replace E := E.bel (bl_trans (by go_grown) hbn); replace Ec := E.c2; replace F := F.bel (bl_trans (by go_grown) hbn); replace Fc := F.c2; (try rw [H1.out]); (try rw [H2.out]); replace M := M.bel hbn; have m1 := M.getB hb1; have m2 := M.getB hb2; (try rw [T1.out] at m1); (try rw [T2.out] at m2); clear hbn) | (go_at_call 180; refine (CellIndex_s _ _ _).mono ?_; rintro e wn ⟨rfl, hbn⟩; have hSz := bl_sz (bl_trans hB (by go_grown)) hbn; replace hB := bl_trans (bl_trans hB (by go_grown)) hbn; replace P := P.bel (bl_trans (by go_grown) hbn); replace Pc := P.c1; replace E := E.bel (bl_trans (by go_grown) hbn); replace Ec := E.c2; replace F := F.bel (bl_trans (by go_grown) hbn); replace Fc := F.c2; (try rw [I1.out]); (try rw [I2.out]); replace M := M.bel hbn; have m1 := M.getB hb1; have m2 := M.getB hb2; (try rw [T1.out] at m1); (try rw [T2.out] at m2); clear hbn))
              go_ret
              exact ⟨ret_bool (by rw [hv.out]), bl_trans hB (by go_grown)⟩
            · have H2 := Lib.hid (HB2.out.trans (HSE.out ▸ u2))
              cases u3 : U.testBit n1
              · have T1 := Lib.hid u3
                cases u4 : U.testBit n2
                · have T2 := Lib.hid u4
                  have hsub : bdiff S U &&& o = o := by
                    rw [HO.out]; exact own_yes hSlt hUl HO3.out (by rw [u1, u3]; rfl) (by rw [u2, u4]; rfl)
                  have Hnx := Lib.hid (show takeP S none l = takeP (bdiff S (U ||| o)) (prevD l (0 + 1)) (l.drop (0 + 1)) by
                    rw [HT.out, takeP_step HV.out, ← HO.out, hsub, O1.out, bdiff_or hSlt hUl hol]; rw [prevD_zero]; simp)
                  have hcd := card_diff (bdiff_lt (b := U) hSlt) hol hsub
                  rw [← bdiff_or hSlt hUl hol, HCO.out] at hcd
                  have HC2 := Lib.hid (show card (bdiff S (U ||| o)) + 2 * (0 + 1) = card S by have := HC.out; omega)
                  have hul2 : U ||| o < 18446744073709551616 := or_lt hUl hol
                  clear u1 u2 u3 u4 hsub hcd
                  go_wp2_with fail
                  (refine (CellsUnder_yes x y z _ OK.out).mono ?_; rintro e wn ⟨rfl, hbn⟩; have hSz := bl_sz (bl_trans hB (by go_grown)) hbn; replace hB := bl_trans (bl_trans hB (by go_grown)) hbn; replace P := P.bel (bl_trans (by go_grown) hbn); replace Pc := P.c1; replace M := M.bel hbn; have hM := M.lt; (have E := (Blk.new wn 35 [.int .i64 x, .int .i64 y]).alloc (.cells #[.int .i64 (sndX x z), .int .i64 (sndY y z)] 35); have Ec := E.c2; have F := Blk.new2 wn (.cells #[.int .i64 x, .int .i64 y] 35) 35 [.int .i64 (sndX x z), .int .i64 (sndY y z)]; have Fc := F.c2); replace M := (M.alloc (.cells #[.int .i64 x, .int .i64 y] 35)).alloc (.cells #[.int .i64 (sndX x z), .int .i64 (sndY y z)] 35); replace P := (P.alloc (.cells #[.int .i64 x, .int .i64 y] 35)).alloc (.cells #[.int .i64 (sndX x z), .int .i64 (sndY y z)] 35); replace Pc := P.c1; have hwn := hB.size; clear hbn)
                  have hgw : w.heap.size + 1 < wr.heap.size := HM.out.lt
                  go_upto_region 10 with (first | (go_at_call 84; refine (HasCell_s A c rs _ _ _ hl (hr'.out.below (bl_trans hB (by go_grown)))).mono ?_; rintro e wn ⟨rfl, hbn⟩; have hSz := bl_sz (bl_trans hB (by go_grown)) hbn; replace hB := bl_trans (bl_trans hB (by go_grown)) hbn; replace P := P.bel (bl_trans (by go_grown) hbn); replace Pc := P.c1; replace E := E.bel (bl_trans (by go_grown) hbn); replace Ec := E.c2; replace F := F.bel (bl_trans (by go_grown) hbn); replace Fc := F.c2; (try rw [H1.out]); (try rw [H2.out]); replace M := M.bel hbn; have m1 := M.getB hb1; have m2 := M.getB hb2; (try rw [T1.out] at m1); (try rw [T2.out] at m2); clear hbn) | (go_at_call 180; refine (CellIndex_s _ _ _).mono ?_; rintro e wn ⟨rfl, hbn⟩; have hSz := bl_sz (bl_trans hB (by go_grown)) hbn; replace hB := bl_trans (bl_trans hB (by go_grown)) hbn; replace P := P.bel (bl_trans (by go_grown) hbn); replace Pc := P.c1; replace E := E.bel (bl_trans (by go_grown) hbn); replace Ec := E.c2; replace F := F.bel (bl_trans (by go_grown) hbn); replace Fc := F.c2; (try rw [I1.out]); (try rw [I2.out]); replace M := M.bel hbn; have m1 := M.getB hb1; have m2 := M.getB hb2; (try rw [T1.out] at m1); (try rw [T2.out] at m2); clear hbn))
                  have mf1 := M.frozen n1
                  go_wp2_with fail
                  (refine (CellIndex_s _ _ _).mono ?_; rintro e wn ⟨rfl, hbn⟩; have hSz := bl_sz (bl_trans hB (by go_grown)) hbn; replace hB := bl_trans (bl_trans hB (by go_grown)) hbn; replace E := E.bel (bl_trans (by go_grown) hbn); replace Ec := E.c2; replace F := F.bel (bl_trans (by go_grown) hbn); replace Fc := F.c2; rw [I1.out]; replace M := M.bel hbn; have m1 := M.getB hb1; have mf := M.frozen n1; replace M := M.setB n1; replace E := E.farN (w.heap.size + 1) n1 (by omega) (.bool true); replace F := F.farN (w.heap.size + 1) n1 (by omega) (.bool true); replace Ec := E.c2; replace Fc := F.c2; replace P := (P.bel hbn).farN (w.heap.size + 1) n1 (by omega) (.bool true); replace hB := bl_set hB (p := ⟨w.heap.size + 1, n1, none⟩) (by show w.heap.size ≤ w.heap.size + 1; omega) (.bool true); clear hbn)
                  go_wp2_with fail
                  (refine (CellIndex_s _ _ _).mono ?_; rintro e wn ⟨rfl, hbn⟩; have hSz := bl_sz (bl_trans hB (by go_grown)) hbn; replace hB := bl_trans (bl_trans hB (by go_grown)) hbn; replace F := F.bel (bl_trans (by go_grown) hbn); replace Fc := F.c2; rw [I2.out]; replace M := M.bel hbn; have m2 := M.getB hb2; have mf2 := M.frozen n2; replace M := M.setB n2; replace P := (P.bel hbn).farN (w.heap.size + 1) n2 (by omega) (.bool true); replace hB := bl_set hB (p := ⟨w.heap.size + 1, n2, none⟩) (by show w.heap.size ≤ w.heap.size + 1; omega) (.bool true); clear hbn)
                  go_wp2_with fail
                  go_roundw
                  case rel => exact ⟨0 + 1, U ||| o, by omega, by go_num, hul2, Hnx, HC2, Lib.hid (by rw [HO.out, HO3.out, ← Nat.or_assoc]; exact M), Lib.hid P, hB⟩
                  case measure => simp [intOf]; omega
                · have T2 := Lib.hid u4
                  have hv := Lib.hid (part_false HSE.out.symm (takeP_none HT.out HV.out (.inr (.inl (by rw [← HO.out]; exact own_no hSlt hUl hol' ⟨n2, HO2.out, .inr u4⟩)))))
                  clear u1 u2 u3 u4
                  go_wp2_with fail
                  (refine (CellsUnder_yes x y z _ OK.out).mono ?_; rintro e wn ⟨rfl, hbn⟩; have hSz := bl_sz (bl_trans hB (by go_grown)) hbn; replace hB := bl_trans (bl_trans hB (by go_grown)) hbn; replace P := P.bel (bl_trans (by go_grown) hbn); replace Pc := P.c1; replace M := M.bel hbn; have hM := M.lt; (have E := (Blk.new wn 35 [.int .i64 x, .int .i64 y]).alloc (.cells #[.int .i64 (sndX x z), .int .i64 (sndY y z)] 35); have Ec := E.c2; have F := Blk.new2 wn (.cells #[.int .i64 x, .int .i64 y] 35) 35 [.int .i64 (sndX x z), .int .i64 (sndY y z)]; have Fc := F.c2); replace M := (M.alloc (.cells #[.int .i64 x, .int .i64 y] 35)).alloc (.cells #[.int .i64 (sndX x z), .int .i64 (sndY y z)] 35); replace P := (P.alloc (.cells #[.int .i64 x, .int .i64 y] 35)).alloc (.cells #[.int .i64 (sndX x z), .int .i64 (sndY y z)] 35); replace Pc := P.c1; have hwn := hB.size; clear hbn)
                  go_wp2_with (first | (go_at_call 84; refine (HasCell_s A c rs _ _ _ hl (hr'.out.below (bl_trans hB (by go_grown)))).mono ?_; rintro e wn ⟨rfl, hbn⟩; have hSz := bl_sz (bl_trans hB (by go_grown)) hbn; replace hB := bl_trans (bl_trans hB (by go_grown)) hbn; replace P := P.bel (bl_trans (by go_grown) hbn); replace Pc := P.c1; replace E := E.bel (bl_trans (by go_grown) hbn); replace Ec := E.c2; replace F := F.bel (bl_trans (by go_grown) hbn); replace Fc := F.c2; (try rw [H1.out]); (try rw [H2.out]); replace M := M.bel hbn; have m1 := M.getB hb1; have m2 := M.getB hb2; (try rw [T1.out] at m1); (try rw [T2.out] at m2); clear hbn) | (go_at_call 180; refine (CellIndex_s _ _ _).mono ?_; rintro e wn ⟨rfl, hbn⟩; have hSz := bl_sz (bl_trans hB (by go_grown)) hbn; replace hB := bl_trans (bl_trans hB (by go_grown)) hbn; replace P := P.bel (bl_trans (by go_grown) hbn); replace Pc := P.c1; replace E := E.bel (bl_trans (by go_grown) hbn); replace Ec := E.c2; replace F := F.bel (bl_trans (by go_grown) hbn); replace Fc := F.c2; (try rw [I1.out]); (try rw [I2.out]); replace M := M.bel hbn; have m1 := M.getB hb1; have m2 := M.getB hb2; (try rw [T1.out] at m1); (try rw [T2.out] at m2); clear hbn))
                  go_ret
                  exact ⟨ret_bool (by rw [hv.out]), bl_trans hB (by go_grown)⟩
              · have T1 := Lib.hid u3
                have hv := Lib.hid (part_false HSE.out.symm (takeP_none HT.out HV.out (.inr (.inl (by rw [← HO.out]; exact own_no hSlt hUl hol' ⟨n1, HO1.out, .inr u3⟩)))))
                clear u1 u2 u3
                go_wp2_with fail
                (refine (CellsUnder_yes x y z _ OK.out).mono ?_; rintro e wn ⟨rfl, hbn⟩; have hSz := bl_sz (bl_trans hB (by go_grown)) hbn; replace hB := bl_trans (bl_trans hB (by go_grown)) hbn; replace P := P.bel (bl_trans (by go_grown) hbn); replace Pc := P.c1; replace M := M.bel hbn; have hM := M.lt; (have E := (Blk.new wn 35 [.int .i64 x, .int .i64 y]).alloc (.cells #[.int .i64 (sndX x z), .int .i64 (sndY y z)] 35); have Ec := E.c2; have F := Blk.new2 wn (.cells #[.int .i64 x, .int .i64 y] 35) 35 [.int .i64 (sndX x z), .int .i64 (sndY y z)]; have Fc := F.c2); replace M := (M.alloc (.cells #[.int .i64 x, .int .i64 y] 35)).alloc (.cells #[.int .i64 (sndX x z), .int .i64 (sndY y z)] 35); replace P := (P.alloc (.cells #[.int .i64 x, .int .i64 y] 35)).alloc (.cells #[.int .i64 (sndX x z), .int .i64 (sndY y z)] 35); replace Pc := P.c1; have hwn := hB.size; clear hbn)
                go_wp2_with (first | (go_at_call 84; refine (HasCell_s A c rs _ _ _ hl (hr'.out.below (bl_trans hB (by go_grown)))).mono ?_; rintro e wn ⟨rfl, hbn⟩; have hSz := bl_sz (bl_trans hB (by go_grown)) hbn; replace hB := bl_trans (bl_trans hB (by go_grown)) hbn; replace P := P.bel (bl_trans (by go_grown) hbn); replace Pc := P.c1; replace E := E.bel (bl_trans (by go_grown) hbn); replace Ec := E.c2; replace F := F.bel (bl_trans (by go_grown) hbn); replace Fc := F.c2; (try rw [H1.out]); (try rw [H2.out]); replace M := M.bel hbn; have m1 := M.getB hb1; have m2 := M.getB hb2; (try rw [T1.out] at m1); (try rw [T2.out] at m2); clear hbn) | (go_at_call 180; refine (CellIndex_s _ _ _).mono ?_; rintro e wn ⟨rfl, hbn⟩; have hSz := bl_sz (bl_trans hB (by go_grown)) hbn; replace hB := bl_trans (bl_trans hB (by go_grown)) hbn; replace P := P.bel (bl_trans (by go_grown) hbn); replace Pc := P.c1; replace E := E.bel (bl_trans (by go_grown) hbn); replace Ec := E.c2; replace F := F.bel (bl_trans (by go_grown) hbn); replace Fc := F.c2; (try rw [I1.out]); (try rw [I2.out]); replace M := M.bel hbn; have m1 := M.getB hb1; have m2 := M.getB hb2; (try rw [T1.out] at m1); (try rw [T2.out] at m2); clear hbn))
                go_ret
                exact ⟨ret_bool (by rw [hv.out]), bl_trans hB (by go_grown)⟩
        · obtain ⟨j, rfl⟩ : ∃ j, k = j + 1 := ⟨k - 1, by omega⟩
          have hdz : decide ((0 : Int) < ((j + 1 : Nat) : Int)) = true := by simp <;> omega
          obtain ⟨b5, off5, a1, a2, a3, hA5, hbl5, hv5, _, _, _, e0, e1, e2⟩ := (hs'.out.below hB).at_ (k := j) (by have := HN.out; omega)
          injection hA5 with hA5
          injection hA5 with hA5 hA6
          subst hA5
          subst hA6
          have q3 := bq_cell e0
          have q4 := bq_cell e1
          have q5 := bq_cell e2
          have HPV := Lib.hid (prevD_succ hv5)
          have hli : j < N := by omega
          clear hv5 e0 e1 e2 h0
          cases c5 : befD (a1, a2, a3) (x, y, z)
          · have C5 := Lib.hid c5
            have hv := Lib.hid (part_false HSE.out.symm (takeP_none HT.out HV.out (.inr (.inr ⟨_, HPV.out, c5⟩))))
            clear c5
            go_wp2_with fail
            (refine wp_region_quiet_bel (by kernel_rfl) (by kernel_rfl) ?_; (repeat (first | go_big_quiet_step (first | (go_at_call 168; exact Calls.bel_of (DominoOk_s _ _ _ _)) | (go_at_call 189; exact Calls.bel_of ((IsDominoBefore_s a1 a2 a3 x y z _).mono (fun e w' h => ⟨h.1.trans (ret_bool C5.out), h.2⟩)))) | quiet_step (first | (go_at_call 168; exact Calls.bel_of (DominoOk_s _ _ _ _)) | (go_at_call 189; exact Calls.bel_of ((IsDominoBefore_s a1 a2 a3 x y z _).mono (fun e w' h => ⟨h.1.trans (ret_bool C5.out), h.2⟩)))))); refine wpQuiet_nil ?_; intro wq hw0; obtain ⟨⟨_, hbq⟩, hw1⟩ := hw0; subst hw1; try dsimp only)
            go_wp2_with fail
            go_ret
            exact ⟨ret_bool (by rw [hv.out]), bl_trans hB hbq⟩
          · have C5 := Lib.hid c5
            clear c5
            go_wp2_with fail
            (refine wp_region_quiet_bel (by kernel_rfl) (by kernel_rfl) ?_; (repeat (first | go_big_quiet_step (first | (go_at_call 168; exact Calls.bel_of (DominoOk_s _ _ _ _)) | (go_at_call 189; exact Calls.bel_of ((IsDominoBefore_s a1 a2 a3 x y z _).mono (fun e w' h => ⟨h.1.trans (ret_bool C5.out), h.2⟩)))) | quiet_step (first | (go_at_call 168; exact Calls.bel_of (DominoOk_s _ _ _ _)) | (go_at_call 189; exact Calls.bel_of ((IsDominoBefore_s a1 a2 a3 x y z _).mono (fun e w' h => ⟨h.1.trans (ret_bool C5.out), h.2⟩)))))); refine wpQuiet_nil ?_; intro wq hw0; obtain ⟨⟨_, hbq⟩, hw1⟩ := hw0; subst hw1; try dsimp only)
            replace hB := bl_trans hB hbq
            have M := HM.out.bel hbq
            have P := HP.out.bel hbq
            have Pc := P.c1
            have f0 := q0 ⟨wq, hbq⟩
            have f1 := q1 ⟨wq, hbq⟩
            have f2 := q2 ⟨wq, hbq⟩
            dsimp only at f0 f1 f2
            clear q0 q1 q2
            cases u1 : S.testBit n1
            · have H1 := Lib.hid (HB1.out.trans (HSE.out ▸ u1))
              have hv := Lib.hid (part_false HSE.out.symm (takeP_none HT.out HV.out (.inr (.inl (by rw [← HO.out]; exact own_no hSlt hUl hol' ⟨n1, HO1.out, .inl u1⟩)))))
              clear u1
              go_wp2_with fail
              (refine (CellsUnder_yes x y z _ OK.out).mono ?_; rintro e wn ⟨rfl, hbn⟩; have hSz := bl_sz (bl_trans hB (by go_grown)) hbn; replace hB := bl_trans (bl_trans hB (by go_grown)) hbn; replace P := P.bel (bl_trans (by go_grown) hbn); replace Pc := P.c1; replace M := M.bel hbn; have hM := M.lt; (have E := (Blk.new wn 35 [.int .i64 x, .int .i64 y]).alloc (.cells #[.int .i64 (sndX x z), .int .i64 (sndY y z)] 35); have Ec := E.c2; have F := Blk.new2 wn (.cells #[.int .i64 x, .int .i64 y] 35) 35 [.int .i64 (sndX x z), .int .i64 (sndY y z)]; have Fc := F.c2); replace M := (M.alloc (.cells #[.int .i64 x, .int .i64 y] 35)).alloc (.cells #[.int .i64 (sndX x z), .int .i64 (sndY y z)] 35); replace P := (P.alloc (.cells #[.int .i64 x, .int .i64 y] 35)).alloc (.cells #[.int .i64 (sndX x z), .int .i64 (sndY y z)] 35); replace Pc := P.c1; have hwn := hB.size; clear hbn)
              go_wp2_with (first | (go_at_call 84; refine (HasCell_s A c rs _ _ _ hl (hr'.out.below (bl_trans hB (by go_grown)))).mono ?_; rintro e wn ⟨rfl, hbn⟩; have hSz := bl_sz (bl_trans hB (by go_grown)) hbn; replace hB := bl_trans (bl_trans hB (by go_grown)) hbn; replace P := P.bel (bl_trans (by go_grown) hbn); replace Pc := P.c1; replace E := E.bel (bl_trans (by go_grown) hbn); replace Ec := E.c2; replace F := F.bel (bl_trans (by go_grown) hbn); replace Fc := F.c2; (try rw [H1.out]); (try rw [H2.out]); replace M := M.bel hbn; have m1 := M.getB hb1; have m2 := M.getB hb2; (try rw [T1.out] at m1); (try rw [T2.out] at m2); clear hbn) | (go_at_call 180; refine (CellIndex_s _ _ _).mono ?_; rintro e wn ⟨rfl, hbn⟩; have hSz := bl_sz (bl_trans hB (by go_grown)) hbn; replace hB := bl_trans (bl_trans hB (by go_grown)) hbn; replace P := P.bel (bl_trans (by go_grown) hbn); replace Pc := P.c1; replace E := E.bel (bl_trans (by go_grown) hbn); replace Ec := E.c2; replace F := F.bel (bl_trans (by go_grown) hbn); replace Fc := F.c2; (try rw [I1.out]); (try rw [I2.out]); replace M := M.bel hbn; have m1 := M.getB hb1; have m2 := M.getB hb2; (try rw [T1.out] at m1); (try rw [T2.out] at m2); clear hbn))
              go_ret
              exact ⟨ret_bool (by rw [hv.out]), bl_trans hB (by go_grown)⟩
            · have H1 := Lib.hid (HB1.out.trans (HSE.out ▸ u1))
              cases u2 : S.testBit n2
              · have H2 := Lib.hid (HB2.out.trans (HSE.out ▸ u2))
                have hv := Lib.hid (part_false HSE.out.symm (takeP_none HT.out HV.out (.inr (.inl (by rw [← HO.out]; exact own_no hSlt hUl hol' ⟨n2, HO2.out, .inl u2⟩)))))
                clear u1 u2
                go_wp2_with fail
                (refine (CellsUnder_yes x y z _ OK.out).mono ?_; rintro e wn ⟨rfl, hbn⟩; have hSz := bl_sz (bl_trans hB (by go_grown)) hbn; replace hB := bl_trans (bl_trans hB (by go_grown)) hbn; replace P := P.bel (bl_trans (by go_grown) hbn); replace Pc := P.c1; replace M := M.bel hbn; have hM := M.lt; (have E := (Blk.new wn 35 [.int .i64 x, .int .i64 y]).alloc (.cells #[.int .i64 (sndX x z), .int .i64 (sndY y z)] 35); have Ec := E.c2; have F := Blk.new2 wn (.cells #[.int .i64 x, .int .i64 y] 35) 35 [.int .i64 (sndX x z), .int .i64 (sndY y z)]; have Fc := F.c2); replace M := (M.alloc (.cells #[.int .i64 x, .int .i64 y] 35)).alloc (.cells #[.int .i64 (sndX x z), .int .i64 (sndY y z)] 35); replace P := (P.alloc (.cells #[.int .i64 x, .int .i64 y] 35)).alloc (.cells #[.int .i64 (sndX x z), .int .i64 (sndY y z)] 35); replace Pc := P.c1; have hwn := hB.size; clear hbn)
                go_wp2_with (first | (go_at_call 84; refine (HasCell_s A c rs _ _ _ hl (hr'.out.below (bl_trans hB (by go_grown)))).mono ?_; rintro e wn ⟨rfl, hbn⟩; have hSz := bl_sz (bl_trans hB (by go_grown)) hbn; replace hB := bl_trans (bl_trans hB (by go_grown)) hbn; replace P := P.bel (bl_trans (by go_grown) hbn); replace Pc := P.c1; replace E := E.bel (bl_trans (by go_grown) hbn); replace Ec := E.c2; replace F := F.bel (bl_trans (by go_grown) hbn); replace Fc := F.c2; (try rw [H1.out]); (try rw [H2.out]); replace M := M.bel hbn; have m1 := M.getB hb1; have m2 := M.getB hb2; (try rw [T1.out] at m1); (try rw [T2.out] at m2); clear hbn) | (go_at_call 180; refine (CellIndex_s _ _ _).mono ?_; rintro e wn ⟨rfl, hbn⟩; have hSz := bl_sz (bl_trans hB (by go_grown)) hbn; replace hB := bl_trans (bl_trans hB (by go_grown)) hbn; replace P := P.bel (bl_trans (by go_grown) hbn); replace Pc := P.c1; replace E := E.bel (bl_trans (by go_grown) hbn); replace Ec := E.c2; replace F := F.bel (bl_trans (by go_grown) hbn); replace Fc := F.c2; (try rw [I1.out]); (try rw [I2.out]); replace M := M.bel hbn; have m1 := M.getB hb1; have m2 := M.getB hb2; (try rw [T1.out] at m1); (try rw [T2.out] at m2); clear hbn))
                go_ret
                exact ⟨ret_bool (by rw [hv.out]), bl_trans hB (by go_grown)⟩
              · have H2 := Lib.hid (HB2.out.trans (HSE.out ▸ u2))
                cases u3 : U.testBit n1
                · have T1 := Lib.hid u3
                  cases u4 : U.testBit n2
                  · have T2 := Lib.hid u4
                    have hsub : bdiff S U &&& o = o := by
                      rw [HO.out]; exact own_yes hSlt hUl HO3.out (by rw [u1, u3]; rfl) (by rw [u2, u4]; rfl)
                    have Hnx := Lib.hid (show takeP S none l = takeP (bdiff S (U ||| o)) (prevD l ((j + 1) + 1)) (l.drop ((j + 1) + 1)) by
                      rw [HT.out, takeP_step HV.out, ← HO.out, hsub, O1.out, bdiff_or hSlt hUl hol]; rw [HPV.out]; simp [C5.out])
                    have hcd := card_diff (bdiff_lt (b := U) hSlt) hol hsub
                    rw [← bdiff_or hSlt hUl hol, HCO.out] at hcd
                    have HC2 := Lib.hid (show card (bdiff S (U ||| o)) + 2 * ((j + 1) + 1) = card S by have := HC.out; omega)
                    have hul2 : U ||| o < 18446744073709551616 := or_lt hUl hol
                    clear u1 u2 u3 u4 hsub hcd
                    go_wp2_with fail
                    (refine (CellsUnder_yes x y z _ OK.out).mono ?_; rintro e wn ⟨rfl, hbn⟩; have hSz := bl_sz (bl_trans hB (by go_grown)) hbn; replace hB := bl_trans (bl_trans hB (by go_grown)) hbn; replace P := P.bel (bl_trans (by go_grown) hbn); replace Pc := P.c1; replace M := M.bel hbn; have hM := M.lt; (have E := (Blk.new wn 35 [.int .i64 x, .int .i64 y]).alloc (.cells #[.int .i64 (sndX x z), .int .i64 (sndY y z)] 35); have Ec := E.c2; have F := Blk.new2 wn (.cells #[.int .i64 x, .int .i64 y] 35) 35 [.int .i64 (sndX x z), .int .i64 (sndY y z)]; have Fc := F.c2); replace M := (M.alloc (.cells #[.int .i64 x, .int .i64 y] 35)).alloc (.cells #[.int .i64 (sndX x z), .int .i64 (sndY y z)] 35); replace P := (P.alloc (.cells #[.int .i64 x, .int .i64 y] 35)).alloc (.cells #[.int .i64 (sndX x z), .int .i64 (sndY y z)] 35); replace Pc := P.c1; have hwn := hB.size; clear hbn)
                    have hgw : w.heap.size + 1 < wr.heap.size := HM.out.lt
                    go_upto_region 10 with (first | (go_at_call 84; refine (HasCell_s A c rs _ _ _ hl (hr'.out.below (bl_trans hB (by go_grown)))).mono ?_; rintro e wn ⟨rfl, hbn⟩; have hSz := bl_sz (bl_trans hB (by go_grown)) hbn; replace hB := bl_trans (bl_trans hB (by go_grown)) hbn; replace P := P.bel (bl_trans (by go_grown) hbn); replace Pc := P.c1; replace E := E.bel (bl_trans (by go_grown) hbn); replace Ec := E.c2; replace F := F.bel (bl_trans (by go_grown) hbn); replace Fc := F.c2; (try rw [H1.out]); (try rw [H2.out]); replace M := M.bel hbn; have m1 := M.getB hb1; have m2 := M.getB hb2; (try rw [T1.out] at m1); (try rw [T2.out] at m2); clear hbn) | (go_at_call 180; refine (CellIndex_s _ _ _).mono ?_; rintro e wn ⟨rfl, hbn⟩; have hSz := bl_sz (bl_trans hB (by go_grown)) hbn; replace hB := bl_trans (bl_trans hB (by go_grown)) hbn; replace P := P.bel (bl_trans (by go_grown) hbn); replace Pc := P.c1; replace E := E.bel (bl_trans (by go_grown) hbn); replace Ec := E.c2; replace F := F.bel (bl_trans (by go_grown) hbn); replace Fc := F.c2; (try rw [I1.out]); (try rw [I2.out]); replace M := M.bel hbn; have m1 := M.getB hb1; have m2 := M.getB hb2; (try rw [T1.out] at m1); (try rw [T2.out] at m2); clear hbn))
                    have mf1 := M.frozen n1
                    go_wp2_with fail
                    (refine (CellIndex_s _ _ _).mono ?_; rintro e wn ⟨rfl, hbn⟩; have hSz := bl_sz (bl_trans hB (by go_grown)) hbn; replace hB := bl_trans (bl_trans hB (by go_grown)) hbn; replace E := E.bel (bl_trans (by go_grown) hbn); replace Ec := E.c2; replace F := F.bel (bl_trans (by go_grown) hbn); replace Fc := F.c2; rw [I1.out]; replace M := M.bel hbn; have m1 := M.getB hb1; have mf := M.frozen n1; replace M := M.setB n1; replace E := E.farN (w.heap.size + 1) n1 (by omega) (.bool true); replace F := F.farN (w.heap.size + 1) n1 (by omega) (.bool true); replace Ec := E.c2; replace Fc := F.c2; replace P := (P.bel hbn).farN (w.heap.size + 1) n1 (by omega) (.bool true); replace hB := bl_set hB (p := ⟨w.heap.size + 1, n1, none⟩) (by show w.heap.size ≤ w.heap.size + 1; omega) (.bool true); clear hbn)
                    go_wp2_with fail
                    (refine (CellIndex_s _ _ _).mono ?_; rintro e wn ⟨rfl, hbn⟩; have hSz := bl_sz (bl_trans hB (by go_grown)) hbn; replace hB := bl_trans (bl_trans hB (by go_grown)) hbn; replace F := F.bel (bl_trans (by go_grown) hbn); replace Fc := F.c2; rw [I2.out]; replace M := M.bel hbn; have m2 := M.getB hb2; have mf2 := M.frozen n2; replace M := M.setB n2; replace P := (P.bel hbn).farN (w.heap.size + 1) n2 (by omega) (.bool true); replace hB := bl_set hB (p := ⟨w.heap.size + 1, n2, none⟩) (by show w.heap.size ≤ w.heap.size + 1; omega) (.bool true); clear hbn)
                    go_wp2_with fail
                    go_roundw
                    case rel => exact ⟨(j + 1) + 1, U ||| o, by omega, by go_num, hul2, Hnx, HC2, Lib.hid (by rw [HO.out, HO3.out, ← Nat.or_assoc]; exact M), Lib.hid P, hB⟩
                    case measure => simp [intOf]; omega
                  · have T2 := Lib.hid u4
                    have hv := Lib.hid (part_false HSE.out.symm (takeP_none HT.out HV.out (.inr (.inl (by rw [← HO.out]; exact own_no hSlt hUl hol' ⟨n2, HO2.out, .inr u4⟩)))))
                    clear u1 u2 u3 u4
                    go_wp2_with fail
                    (refine (CellsUnder_yes x y z _ OK.out).mono ?_; rintro e wn ⟨rfl, hbn⟩; have hSz := bl_sz (bl_trans hB (by go_grown)) hbn; replace hB := bl_trans (bl_trans hB (by go_grown)) hbn; replace P := P.bel (bl_trans (by go_grown) hbn); replace Pc := P.c1; replace M := M.bel hbn; have hM := M.lt; (have E := (Blk.new wn 35 [.int .i64 x, .int .i64 y]).alloc (.cells #[.int .i64 (sndX x z), .int .i64 (sndY y z)] 35); have Ec := E.c2; have F := Blk.new2 wn (.cells #[.int .i64 x, .int .i64 y] 35) 35 [.int .i64 (sndX x z), .int .i64 (sndY y z)]; have Fc := F.c2); replace M := (M.alloc (.cells #[.int .i64 x, .int .i64 y] 35)).alloc (.cells #[.int .i64 (sndX x z), .int .i64 (sndY y z)] 35); replace P := (P.alloc (.cells #[.int .i64 x, .int .i64 y] 35)).alloc (.cells #[.int .i64 (sndX x z), .int .i64 (sndY y z)] 35); replace Pc := P.c1; have hwn := hB.size; clear hbn)
                    go_wp2_with (first | (go_at_call 84; refine (HasCell_s A c rs _ _ _ hl (hr'.out.below (bl_trans hB (by go_grown)))).mono ?_; rintro e wn ⟨rfl, hbn⟩; have hSz := bl_sz (bl_trans hB (by go_grown)) hbn; replace hB := bl_trans (bl_trans hB (by go_grown)) hbn; replace P := P.bel (bl_trans (by go_grown) hbn); replace Pc := P.c1; replace E := E.bel (bl_trans (by go_grown) hbn); replace Ec := E.c2; replace F := F.bel (bl_trans (by go_grown) hbn); replace Fc := F.c2; (try rw [H1.out]); (try rw [H2.out]); replace M := M.bel hbn; have m1 := M.getB hb1; have m2 := M.getB hb2; (try rw [T1.out] at m1); (try rw [T2.out] at m2); clear hbn) | (go_at_call 180; refine (CellIndex_s _ _ _).mono ?_; rintro e wn ⟨rfl, hbn⟩; have hSz := bl_sz (bl_trans hB (by go_grown)) hbn; replace hB := bl_trans (bl_trans hB (by go_grown)) hbn; replace P := P.bel (bl_trans (by go_grown) hbn); replace Pc := P.c1; replace E := E.bel (bl_trans (by go_grown) hbn); replace Ec := E.c2; replace F := F.bel (bl_trans (by go_grown) hbn); replace Fc := F.c2; (try rw [I1.out]); (try rw [I2.out]); replace M := M.bel hbn; have m1 := M.getB hb1; have m2 := M.getB hb2; (try rw [T1.out] at m1); (try rw [T2.out] at m2); clear hbn))
                    go_ret
                    exact ⟨ret_bool (by rw [hv.out]), bl_trans hB (by go_grown)⟩
                · have T1 := Lib.hid u3
                  have hv := Lib.hid (part_false HSE.out.symm (takeP_none HT.out HV.out (.inr (.inl (by rw [← HO.out]; exact own_no hSlt hUl hol' ⟨n1, HO1.out, .inr u3⟩)))))
                  clear u1 u2 u3
                  go_wp2_with fail
                  (refine (CellsUnder_yes x y z _ OK.out).mono ?_; rintro e wn ⟨rfl, hbn⟩; have hSz := bl_sz (bl_trans hB (by go_grown)) hbn; replace hB := bl_trans (bl_trans hB (by go_grown)) hbn; replace P := P.bel (bl_trans (by go_grown) hbn); replace Pc := P.c1; replace M := M.bel hbn; have hM := M.lt; (have E := (Blk.new wn 35 [.int .i64 x, .int .i64 y]).alloc (.cells #[.int .i64 (sndX x z), .int .i64 (sndY y z)] 35); have Ec := E.c2; have F := Blk.new2 wn (.cells #[.int .i64 x, .int .i64 y] 35) 35 [.int .i64 (sndX x z), .int .i64 (sndY y z)]; have Fc := F.c2); replace M := (M.alloc (.cells #[.int .i64 x, .int .i64 y] 35)).alloc (.cells #[.int .i64 (sndX x z), .int .i64 (sndY y z)] 35); replace P := (P.alloc (.cells #[.int .i64 x, .int .i64 y] 35)).alloc (.cells #[.int .i64 (sndX x z), .int .i64 (sndY y z)] 35); replace Pc := P.c1; have hwn := hB.size; clear hbn)
                  go_wp2_with (first | (go_at_call 84; refine (HasCell_s A c rs _ _ _ hl (hr'.out.below (bl_trans hB (by go_grown)))).mono ?_; rintro e wn ⟨rfl, hbn⟩; have hSz := bl_sz (bl_trans hB (by go_grown)) hbn; replace hB := bl_trans (bl_trans hB (by go_grown)) hbn; replace P := P.bel (bl_trans (by go_grown) hbn); replace Pc := P.c1; replace E := E.bel (bl_trans (by go_grown) hbn); replace Ec := E.c2; replace F := F.bel (bl_trans (by go_grown) hbn); replace Fc := F.c2; (try rw [H1.out]); (try rw [H2.out]); replace M := M.bel hbn; have m1 := M.getB hb1; have m2 := M.getB hb2; (try rw [T1.out] at m1); (try rw [T2.out] at m2); clear hbn) | (go_at_call 180; refine (CellIndex_s _ _ _).mono ?_; rintro e wn ⟨rfl, hbn⟩; have hSz := bl_sz (bl_trans hB (by go_grown)) hbn; replace hB := bl_trans (bl_trans hB (by go_grown)) hbn; replace P := P.bel (bl_trans (by go_grown) hbn); replace Pc := P.c1; replace E := E.bel (bl_trans (by go_grown) hbn); replace Ec := E.c2; replace F := F.bel (bl_trans (by go_grown) hbn); replace Fc := F.c2; (try rw [I1.out]); (try rw [I2.out]); replace M := M.bel hbn; have m1 := M.getB hb1; have m2 := M.getB hb2; (try rw [T1.out] at m1); (try rw [T2.out] at m2); clear hbn))
                  go_ret
                  exact ⟨ret_bool (by rw [hv.out]), bl_trans hB (by go_grown)⟩
    · have hv := Lib.hid (show isPartial rs l = regOk rs by
        rw [isPartial_S, ← HSE.out, HT.out, List.drop_eq_nil_of_le (by have := HN.out; omega)]; simp [takeP])
      have P := HP.out
      have Pc := P.c1
      go_wp2_with (go_at_call 94; refine (RegionOk_s A c rs _ hl (hr'.out.below hB)).mono ?_; rintro e wn ⟨rfl, hbn⟩; have hSz := bl_sz (bl_trans hB (by go_grown)) hbn; replace hB := bl_trans (bl_trans hB (by go_grown)) hbn; replace P := P.bel (bl_trans (by go_grown) hbn); replace Pc := P.c1; clear hbn)
      go_ret
      exact ⟨ret_bool (by rw [hv.out]), hB⟩
end Go.Proofs.Ytdcjhfmkkcakhaa

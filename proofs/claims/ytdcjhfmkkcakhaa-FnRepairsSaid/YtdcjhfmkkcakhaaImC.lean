/-
  Contracts of the program's profile, count and CountTilings: the number of tilings, as the reference's; nothing that was there is written. No condition.
-/
import Derived.Test.YtdcjhfmkkcakhaaCnt
import Derived.Test.YtdcjhfmkkcakhaaCells
import Derived.BigQuiet
import Derived.Deep.CutRange
import Derived.Deep.RegionWith
import Derived.StillTailTactics
namespace Go.Proofs.Ytdcjhfmkkcakhaa
open Go.ChangeShapes Go.WideShapes Go.ChangeAt Go.RowKit Go.Deep
set_option linter.unusedVariables false

theorem andnot_fin : ∀ (s : Fin 256) (X : Fin 8), (!s.val.testBit X.val || decide (bits BinOp.andNot IntKind.i64 (s.val : Int) ((2 ^ X.val : Nat) : Int) = ((s.val - 2 ^ X.val : Nat) : Int))) = true := by decide +kernel
theorem and_fin : ∀ (s : Fin 256) (X : Fin 9), ((bits BinOp.and IntKind.i64 (s.val : Int) ((2 ^ X.val : Nat) : Int) == 0) == !s.val.testBit X.val) = true := by decide +kernel
theorem andnot_i64 {s X : Nat} (hs : s < 256) (hX : X < 8) (h : s.testBit X = true) : bits BinOp.andNot IntKind.i64 (s : Int) ((2 ^ X : Nat) : Int) = ((s - 2 ^ X : Nat) : Int) := by
  have := andnot_fin ⟨s, hs⟩ ⟨X, hX⟩
  dsimp only at this
  rw [h] at this
  simpa using this
theorem and_i64 {s X : Nat} (hs : s < 256) (hX : X ≤ 8) : (bits BinOp.and IntKind.i64 (s : Int) ((2 ^ X : Nat) : Int) == 0) = !s.testBit X := by
  have := and_fin ⟨s, hs⟩ ⟨X, by omega⟩
  dsimp only at this
  exact eq_of_beq this
theorem setc_grown {w : World} {g i : Nat} {u : Value} : w.grownBy (w.setCell ⟨g, i, none⟩ u) (some g) := ⟨rfl, rfl, rfl, by simp, fun k hk hne => Below.heap_setCell w ⟨g, i, none⟩ u k (by intro e; exact hne (by rw [e]))⟩
set_option maxRecDepth 100000 in
set_option maxHeartbeats 4000000 in
theorem add_any (a b : Int) (w : World) :
    Calls Try.prog 211 #[.int .i64 a, .int .i64 b] w fun e w' => e = .returned (.int .i64 (wrap64 (a + b))) ∧ w = w' := by
  go_enter Try.func211, Try.ntmps211
  go_wp2_with fail
  go_ret
  exact ⟨rfl, rfl⟩
set_option maxRecDepth 100000 in
set_option maxHeartbeats 4000000 in
theorem withD_any (n x y : Int) (z : Bool) (u : Int) (w : World) (hu : (if x < 0 then 1 else n) = u) :
    Calls Try.prog 212 #[.int .i64 n, .agg #[.int .i64 x, .int .i64 y, .bool z]] w fun e w' => e = .returned (.int .i64 u) ∧ Below w.heap.size w w' := by
  have hB := bl_alloc (Below.refl w.heap.size w) (.cells #[.int .i64 x, .int .i64 y, .bool z] 53)
  have P := Blk.new w 53 [.int .i64 x, .int .i64 y, .bool z]
  have Pc := P.c3
  by_cases hx : x < 0
  · rw [if_pos hx] at hu
    subst hu
    go_enter Try.func212, Try.ntmps212
    go_wp2_with fail
    go_ret
    exact ⟨rfl, hB⟩
  · rw [if_neg hx] at hu
    subst hu
    go_enter Try.func212, Try.ntmps212
    go_wp2_with fail
    go_ret
    exact ⟨rfl, hB⟩
set_option maxRecDepth 100000 in
set_option maxHeartbeats 4000000 in
theorem put_any (g13 g5 g6 N : Nat) (V : List Int) (k : Nat) (n : Int) (w : World) (hl : V.length = 256) (hk : k < 256) (hn : I64 n) (h5 : g5 ≠ N)
    (B13 : Blk w g13 24 [.slice (some ⟨N, 0, none⟩) 256 256]) (B5 : Blk w g5 3 [.int .i64 0]) (B6 : Blk w g6 75 [.func (.func 211) #[] #[]]) (HN : Blk w N 3 (V.map cI)) :
    Calls Try.prog 214 #[.int .i64 k, .int .i64 n, .pointer (some ⟨g13, 0, none⟩), .pointer (some ⟨g5, 0, none⟩), .pointer (some ⟨g6, 0, none⟩)] w fun e w' => e = .returned (.tuple #[]) ∧ Blk w' N 3 ((addAt V k n).map cI) ∧ w.grownBy w' (some N) := by
  have hkN : (k : Int) < 256 := by omega
  have hk0 : (0 : Int) ≤ (k : Int) := by omega
  obtain ⟨v, hv⟩ : ∃ v, v = V.getD k 0 := ⟨_, rfl⟩
  have hvk := getD_at (l := V) (i := k) (by omega)
  rw [← hv] at hvk
  have c1 := B13.c1
  have c2 := B5.c1
  have c3 := B6.c1
  have c4 := HN.getI hvk
  have f4 := HN.frozen k
  have hwn : wrap64 n = n := IntWalk.wrap64_in _ hn
  have HV := Lib.hid (show addAt V k n = V.set k (wrap64 (v + n)) by rw [addAt, hv])
  have HN' := Lib.hid HN
  have HVK := Lib.hid hvk
  have Hwn := Lib.hid hwn
  clear hvk hwn hv
  by_cases h0 : v = 0
  · rw [h0] at HVK c4 HV
    clear h0
    have HV2 := Lib.hid (show addAt V k n = V.set k n by rw [HV.out, Int.zero_add, Hwn.out])
    have q1 := bq_cell c1
    have q2 := bq_cell c2
    have q4 := bq_cell c4
    go_enter Try.func214, Try.ntmps214
    go_wp2_with fail
    (refine wp_region_quiet_bel (by kernel_rfl) (by kernel_rfl) ?_; (repeat (first | go_big_quiet_step (fail) | quiet_step (fail))); refine wpQuiet_nil ?_; intro wq hw0; obtain ⟨⟨_, hbq⟩, hw1⟩ := hw0; subst hw1; try dsimp only)
    have d1 := hbq.cell (p := ⟨g13, 0, none⟩) B13.lt
    have e1 := d1.trans c1
    have HQ := HN'.out.bel hbq
    have e4 := HQ.getI HVK.out
    have ef := HQ.frozen k
    clear q1 q2 q4 c1 c2 c3 c4 f4 d1
    go_wp2_with fail
    exact bodyPost_end (results_none rfl _ _ _) rfl ⟨rfl, by rw [HV2.out]; exact HQ.setI k n, grown_bel hbq setc_grown⟩
  · have h0b : (v == 0) = false := by simpa using h0
    have q1 := bq_cell c1
    have q2 := bq_cell c2
    have q4 := bq_cell c4
    obtain ⟨u, hu⟩ : ∃ u, wrap64 (v + n) = u := ⟨_, rfl⟩
    have HU := Lib.hid hu
    clear h0 hu
    go_enter Try.func214, Try.ntmps214
    go_wp2_with fail
    (refine wp_region_quiet_bel (by kernel_rfl) (by kernel_rfl) ?_; (repeat (first | go_big_quiet_step (fail) | quiet_step (fail))); refine wpQuiet_nil ?_; intro wq hw0; obtain ⟨⟨_, hbq⟩, hw1⟩ := hw0; subst hw1; try dsimp only)
    have HQ := HN'.out.bel hbq
    have e1 := (B13.bel hbq).c1
    have e3 := (B6.bel hbq).c1
    have e4 := HQ.getI HVK.out
    have ef := HQ.frozen k
    clear q1 q2 q4 c1 c2 c3 c4 f4
    go_wp2_with fail
    have HQd := HQ.drew
    have e1d := (B13.bel hbq).drew.c1
    have e3d := (B6.bel hbq).drew.c1
    have e4d := HQd.getI HVK.out
    have efd := HQd.frozen k
    go_region_with ((go_at_call 211; refine (add_any v n _).mono ?_; rintro e w2 ⟨rfl, rfl⟩; rw [HU.out]))
    all_goals (go_wp2_with fail; exact bodyPost_end (results_none rfl _ _ _) rfl ⟨rfl, by rw [HV.out, HU.out]; exact (HQ.setI k u).drew, grown_bel hbq ⟨rfl, rfl, rfl, (setc_grown (w := wq) (g := N) (i := k) (u := .int .i64 u)).size, fun j hj hne => (setc_grown (w := wq) (g := N) (i := k) (u := .int .i64 u)).block j hj hne⟩⟩)
/-- what the states' loop keeps -/
structure PS (w0 : World) (z g : Nat) (cur V : List Int) (X Y : Nat) (w : World) : Prop where
  m : Blk w (z + 1) 3 (cur.map cI)
  n : Blk w g 3 (V.map cI)
  c : Blk w z 35 [.int .i64 (X : Int), .int .i64 (Y : Int)]
  s : Blk w (z + 1 + 1) 24 [.slice (some ⟨z + 1, 0, none⟩) 256 256]
  i : Blk w w0.heap.size 3 [.int .i64 0]
  f : Blk w (w0.heap.size + 1) 75 [.func (.func 211) #[] #[]]
  b : Below w0.heap.size w0 w
  hg : w0.heap.size + 1 < g
  hz : g < z
theorem PS.bel {w0 : World} {z g : Nat} {cur V : List Int} {X Y : Nat} {w w' : World} (h : PS w0 z g cur V X Y w) (hb : Below w.heap.size w w') : PS w0 z g cur V X Y w' :=
  ⟨h.m.bel hb, h.n.bel hb, h.c.bel hb, h.s.bel hb, h.i.bel hb, h.f.bel hb, bl_trans h.b hb, h.hg, h.hz⟩
theorem bel_grownN {w0 w w' : World} {N : Nat} (h : Below w0.heap.size w0 w) (hg : w.grownBy w' (some N)) (hN : w0.heap.size ≤ N) : Below w0.heap.size w0 w' := h.grown hg h.size (fun k hk => by injection hk with hk; omega)
theorem PS.put {w0 : World} {z g : Nat} {cur cur' V : List Int} {X Y : Nat} {w w' : World} (h : PS w0 z g cur V X Y w) (hm : Blk w' (z + 1) 3 (cur'.map cI)) (hg : w.grownBy w' (some (z + 1))) : PS w0 z g cur' V X Y w' := by
  have h1 := h.hg
  have h2 := h.hz
  exact ⟨hm, h.n.grow hg (by omega), h.c.grow hg (by omega), h.s.grow hg (by omega), h.i.grow hg (by omega), h.f.grow hg (by omega), bel_grownN h.b hg (by omega), h1, h2⟩
/-- put at the states' loop -/
theorem PS.putC {w0 : World} {z g : Nat} {cur V : List Int} {X Y : Nat} {w : World} (h : PS w0 z g cur V X Y w) (hl : cur.length = 256) {k : Nat} {n : Int} (hk : k < 256) (hn : I64 n) :
    Calls Try.prog 214 #[.int .i64 k, .int .i64 n, .pointer (some ⟨z + 1 + 1, 0, none⟩), .pointer (some ⟨w0.heap.size, 0, none⟩), .pointer (some ⟨w0.heap.size + 1, 0, none⟩)] w fun e w' => e = .returned (.tuple #[]) ∧ PS w0 z g (addAt cur k n) V X Y w' := by
  have h1 := h.hg
  have h2 := h.hz
  exact (put_any (z + 1 + 1) w0.heap.size (w0.heap.size + 1) (z + 1) cur k n w hl hk hn (by omega) h.s h.i h.f h.m).mono fun e w' ⟨he, hb, hg⟩ => ⟨he, h.put hb hg⟩
theorem hasBit_at {R k X Y : Nat} (hk : k = 8 * Y + X) (hX : X < 8) (hY : Y < 8) : hasBit R (X : Int) (Y : Int) = R.testBit k := by
  unfold hasBit
  rw [cellOk_iff.2 (by omega : (0 ≤ (X : Int) ∧ (X : Int) ≤ 7) ∧ 0 ≤ (Y : Int) ∧ (Y : Int) ≤ 7), Bool.true_and, hk]
  congr 1
  omega
theorem hasBit_below {R k X Y : Nat} (hR : R < 18446744073709551616) (hk : k = 8 * Y + X) (hX : X < 8) (hk64 : k < 64) : hasBit R (X : Int) ((Y : Int) + 1) = R.testBit (k + 8) := by
  by_cases h : Y + 1 < 8
  · exact hasBit_at (R := R) (k := k + 8) (X := X) (Y := Y + 1) (by omega) hX h
  · cases h2 : R.testBit (k + 8)
    · unfold hasBit
      cases hc : cellOk (X : Int) ((Y : Int) + 1)
      · rfl
      · have := cellOk_iff.1 hc; omega
    · have := bit_lt hR h2; omega
theorem hasBit_right {R k X Y : Nat} (hk : k = 8 * Y + X) (hX : X < 8) (hY : Y < 8) : hasBit R ((X : Int) + 1) (Y : Int) = (decide (X < 7) && R.testBit (k + 1)) := by
  by_cases h : X < 7
  · rw [decide_eq_true h, Bool.true_and]
    exact hasBit_at (R := R) (k := k + 1) (X := X + 1) (Y := Y) (by omega) (by omega) hY
  · rw [decide_eq_false h, Bool.false_and]
    unfold hasBit
    cases hc : cellOk ((X : Int) + 1) (Y : Int)
    · rfl
    · have := cellOk_iff.1 hc; omega
theorem zeros_set (k : Nat) : (List.replicate 256 (Value.int .i64 0)).set k (.int .i64 0) = List.replicate 256 (.int .i64 0) := by
  apply List.ext_getElem?
  intro i
  rw [List.getElem?_set]
  split
  · rename_i h; subst h
    rw [List.getElem?_replicate, List.length_replicate]
  · rfl
set_option maxRecDepth 100000 in
set_option maxHeartbeats 8000000 in
theorem profile_any (R : Nat) (w : World) (hR : R < 18446744073709551616) :
    Calls Try.prog 210 #[.int .u64 R, .int .i64 0, .func (.func 211) #[] #[], .func (.func 212) #[] #[]] w fun e w' => e = .returned (.int .i64 (countD R)) ∧ Below w.heap.size w w' := by
  obtain ⟨Z, hZ⟩ : ∃ Z : List Value, Z = List.replicate 256 (.int .i64 0) := ⟨_, rfl⟩
  have hmk : ∀ w : World, (Instr.makeSlice 24 (.int .i64 256) (.int .i64 256)).run Try.prog w = .ok (.slice (some ⟨w.heap.size, 0, none⟩) 256 256) (w.alloc (.cells Z.toArray 3)) := fun w => by
    rw [hZ, ← made_list]
    exact run_make_row' (P := Try.prog) 24 3 (.int .i64 0) 8 Try.underlying24 info_int rfl .i64 .i64 256 (by omega) (by omega) (w := w)
  have hB := bl_alloc (bl_alloc (bl_alloc (Below.refl w.heap.size w) (.cells #[.int .i64 0] 3)) (.cells #[.func (.func 211) #[] #[]] 75)) (.cells Z.toArray 3)
  have I0 := ((Blk.new w 3 [.int .i64 0]).alloc (.cells #[.func (.func 211) #[] #[]] 75)).alloc (.cells Z.toArray 3)
  have F0 := (Blk.new2 w (.cells #[.int .i64 0] 3) 75 [.func (.func 211) #[] #[]]).alloc (.cells Z.toArray 3)
  have N0 := Blk.new3 w (.cells #[.int .i64 0] 3) (.cells #[.func (.func 211) #[] #[]] 75) 3 Z
  have HZs := Lib.hid (fun k : Nat => show Z.set k (.int .i64 0) = Z by rw [hZ]; exact zeros_set k)
  have HZat := Lib.hid (fun (k : Nat) (hk : k < 256) => show Z[k]? = some (.int .i64 0) by rw [hZ, List.getElem?_replicate, if_pos hk])
  have HZ1 := Lib.hid (show Z.set 0 (.int .i64 1) = (dpL R 0).map cI by rw [hZ, dpL, List.map_set, List.map_replicate]; rfl)
  have HZ := Lib.hid (show Z = (List.replicate 256 (0 : Int)).map cI by rw [hZ, List.map_replicate]; rfl)
  have HI0 := Lib.hid I0
  have HF0 := Lib.hid F0
  have HN0 := Lib.hid N0
  have HB0 := Lib.hid hB
  clear hZ I0 F0 N0 hB
  go_enter Try.func210, Try.ntmps210
  go_wp2_with fail
  go_loopw [22] (fun i wr => ∃ k : Nat, k ≤ 256 ∧ i = .int .i64 k ∧ Hid (Blk wr w.heap.size 3 [.int .i64 0]) ∧ Hid (Blk wr (w.heap.size + 1) 75 [.func (.func 211) #[] #[]]) ∧ Hid (Blk wr (w.heap.size + 1 + 1) 3 Z) ∧ Hid (Below w.heap.size w wr)) (fun i _ => 256 - (intOf i).toNat)
  case atStart => exact ⟨0, by omega, rfl, HI0, HF0, HN0, HB0⟩
  case round =>
    obtain ⟨k, hk, rfl, HI, HF, HN, HB⟩ := hrel
    clear HI0 HF0 HN0 HB0
    by_cases hlt : k < 256
    · have c1 := HI.out.c1
      have c2 := HN.out.cell k
      rw [HZat.out k hlt] at c2
      have f2 := HN.out.frozen k
      have hk0 : (0 : Int) ≤ (k : Int) := by omega
      have hk2 : (k : Int) < 256 := by omega
      have HN2 := Lib.hid (HN.out.set_ k (.int .i64 0))
      rw [HZs.out] at HN2
      go_wp2_with fail
      go_roundw
      case rel => exact ⟨k + 1, by omega, by go_num, Lib.hid (HI.out.farN _ _ (by omega) _), Lib.hid (HF.out.farN _ _ (by omega) _), HN2, Lib.hid (bl_set HB.out (p := ⟨w.heap.size + 1 + 1, k, none⟩) (by show w.heap.size ≤ w.heap.size + 1 + 1; omega) _)⟩
      case measure => simp [intOf]; omega
    · obtain rfl : k = 256 := by omega
      have c1 := HI.out.c1
      have c2 := HN.out.cell 0
      rw [HZat.out 0 (by decide)] at c2
      have f2 := HN.out.frozen 0
      go_wp2_with (go_at_call 212; refine (withD_any 0 (-1) 0 false 1 _ rfl).mono ?_; rintro e w1 ⟨rfl, hb1⟩; replace c2 := (hb1.cell (p := ⟨w.heap.size + 1 + 1, 0, none⟩) HN.out.lt).trans c2; replace HI := Lib.hid (HI.out.bel hb1); replace HF := Lib.hid (HF.out.bel hb1); replace HN := Lib.hid (HN.out.bel hb1); replace HB := Lib.hid (bl_trans HB.out hb1); replace f2 := HN.out.frozen 0; clear hb1)
      have HN1 := Lib.hid (HN.out.set_ 0 (.int .i64 1))
      rw [HZ1.out] at HN1
      have HI1 := Lib.hid (HI.out.farN (w.heap.size + 1 + 1) 0 (by omega) (.int .i64 1))
      have HF1 := Lib.hid (HF.out.farN (w.heap.size + 1 + 1) 0 (by omega) (.int .i64 1))
      have HB1 := Lib.hid (bl_set HB.out (p := ⟨w.heap.size + 1 + 1, 0, none⟩) (by show w.heap.size ≤ w.heap.size + 1 + 1; omega) (.int .i64 1))
      clear hk hlt c1 c2 f2 HI HF HN HB
      go_loopw [9, 36] (fun v i wr => ∃ k g : Nat, k ≤ 64 ∧ i = .int .i64 k ∧ v = .slice (some ⟨g, 0, none⟩) 256 256 ∧ w.heap.size + 1 < g ∧ Hid (Blk wr g 3 ((dpL R k).map cI)) ∧ Hid (Blk wr w.heap.size 3 [.int .i64 0]) ∧ Hid (Blk wr (w.heap.size + 1) 75 [.func (.func 211) #[] #[]]) ∧ Hid (Below w.heap.size w wr)) (fun _ i _ => 64 - (intOf i).toNat)
      case atStart => exact ⟨0, w.heap.size + 1 + 1, by omega, rfl, rfl, by omega, HN1, HI1, HF1, HB1⟩
      case round =>
        obtain ⟨k, g, hk, rfl, rfl, hg, HN, HI, HF, HB⟩ := hrel
        clear HN1 HI1 HF1 HB1
        by_cases hk64 : k < 64
        · obtain ⟨X, hX⟩ : ∃ X, X = k % 8 := ⟨_, rfl⟩
          obtain ⟨Y, hY⟩ : ∃ Y, Y = k / 8 := ⟨_, rfl⟩
          have hkXY : k = 8 * Y + X := by omega
          have hX8 : X < 8 := by omega
          have hY8 : Y < 8 := by omega
          have hca : Hid (∀ w : World, Calls Try.prog 179 #[.int .i64 k] w fun e w' => e = .returned (.agg #[.int .i64 (X : Int), .int .i64 (Y : Int)]) ∧ Below w.heap.size w w') := Lib.hid (fun w => by
            have := cellAt_any k w (by omega)
            unfold cellOf at this
            dsimp only at this
            rwa [show ((k : Int) % 8) = (X : Int) by omega, show ((k : Int) / 8) = (Y : Int) by omega] at this)
          have HX := Lib.hid (And.intro hX hkXY)
          clear hX hY hkXY
          go_upto_region 13 with (go_at_call 179; refine (hca.out _).mono ?_; rintro e wn ⟨rfl, hbn⟩; replace HI := Lib.hid (HI.out.bel hbn); replace HF := Lib.hid (HF.out.bel hbn); replace HN := Lib.hid (HN.out.bel hbn); replace HB := Lib.hid (bl_trans HB.out hbn); clear hbn hca)
          obtain ⟨V, hV⟩ : ∃ V, V = dpL R k := ⟨_, rfl⟩
          have HV := Lib.hid hV
          have hVl : V.length = 256 := by rw [hV]; exact dpL_len R k
          have hV64 := Lib.hid (show All64 V by rw [hV]; exact dpL_64 R k)
          have hgl := HN.out.lt
          rw [← hV] at HN
          have HP := Lib.hid (show PS w wn.heap.size g (List.replicate 256 0) V X Y (((wn.alloc (.cells #[.int .i64 (X : Int), .int .i64 (Y : Int)] 35)).alloc (.cells Z.toArray 3)).alloc (.cells #[.slice (some ⟨wn.heap.size + 1, 0, none⟩) 256 256] 24)) from
            ⟨by rw [← HZ.out]; exact (Blk.new2 wn (.cells #[.int .i64 (X : Int), .int .i64 (Y : Int)] 35) 3 Z).alloc _, ((HN.out.alloc _).alloc _).alloc _, ((Blk.new wn 35 [.int .i64 (X : Int), .int .i64 (Y : Int)]).alloc _).alloc _, Blk.new3 wn (.cells #[.int .i64 (X : Int), .int .i64 (Y : Int)] 35) (.cells Z.toArray 3) 24 [.slice (some ⟨wn.heap.size + 1, 0, none⟩) 256 256], ((HI.out.alloc _).alloc _).alloc _, ((HF.out.alloc _).alloc _).alloc _, bl_alloc (bl_alloc (bl_alloc HB.out _) _) _, hg, hgl⟩)
          clear HI HF HN HB hV
          obtain ⟨z, hz⟩ : ∃ z, z = wn.heap.size := ⟨_, rfl⟩
          obtain ⟨W, hW⟩ : ∃ W, W = ((wn.alloc (.cells #[.int .i64 (X : Int), .int .i64 (Y : Int)] 35)).alloc (.cells Z.toArray 3)).alloc (.cells #[.slice (some ⟨wn.heap.size + 1, 0, none⟩) 256 256] 24) := ⟨_, rfl⟩
          rw [← hW] at HP ⊢
          clear hW
          rw [← hz] at HP hgl ⊢
          clear hz
          have c4 := HP.out.s.c1
          go_wp2_with fail
          go_loopw [44] (fun i wr => ∃ j : Nat, j ≤ 256 ∧ i = .int .i64 j ∧ Hid (PS w z g (List.replicate 256 0) V X Y wr)) (fun i _ => 256 - (intOf i).toNat)
          case atStart => exact ⟨0, by omega, rfl, HP⟩
          case round =>
            obtain ⟨j, hj, rfl, HP'⟩ := hrel
            clear HP c4
            have HP := HP'
            clear HP'
            by_cases hj2 : j < 256
            · have c1 := HP.out.i.c1
              have c3 := HP.out.s.c1
              have c2 := HP.out.m.cell j
              rw [← HZ.out, HZat.out j hj2] at c2
              have f2 := HP.out.m.frozen j
              have hj0 : (0 : Int) ≤ (j : Int) := by omega
              have hj3 : (j : Int) < 256 := by omega
              have HM2 := HP.out.m.set_ j (.int .i64 0)
              rw [← HZ.out, HZs.out, HZ.out] at HM2
              have HP2 := Lib.hid (HP.out.put HM2 setc_grown)
              clear HM2
              go_wp2_with fail
              go_roundw
              case rel => exact ⟨j + 1, by omega, by go_num, HP2⟩
              case measure => simp [intOf]; omega
            · obtain rfl : j = 256 := by omega
              clear hj2 hj
              rw [show ((256 : Nat) : Int) = 256 from rfl]
              obtain ⟨q, hq, hq128, hq1, hqw⟩ := pow_small (X := X) hX8
              have hX0 : (0 : Int) ≤ (X : Int) := by omega
              have c3 := HP.out.c.c2
              have hw2 : IntKind.i64.wrap ((2 : Int) ^ X) = (q : Int) := by rw [wrap_i64]; exact hqw
              have HQ := Lib.hid hq
              clear hq hqw
              go_wp2_with fail
              have hq := HQ.out
              have hp2 : (2 : Int) ^ X = (q : Int) := by rw [hq]; simp
              (try rw [hp2])
              clear c3 hw2 hp2 hq
              have HP0 := Lib.hid (show PS w z g (rowTo R k V 0) V X Y wr from HP.out)
              clear HP
              go_loopw [58] (fun i wr => ∃ s : Nat, s ≤ 256 ∧ i = .int .i64 s ∧ Hid (PS w z g (rowTo R k V s) V X Y wr)) (fun i _ => 256 - (intOf i).toNat)
              case atStart => exact ⟨0, by omega, rfl, HP0⟩
              case round =>
                obtain ⟨s, hs, rfl, HP⟩ := hrel
                clear HP0
                obtain ⟨cur, hcur⟩ : ∃ cur, cur = rowTo R k V s := ⟨_, rfl⟩
                rw [← hcur] at HP
                have hcl : cur.length = 256 := by rw [hcur]; exact rowTo_len _ _ _ _
                by_cases hs256 : s < 256
                · have hVs := getD_at (l := V) (i := s) (by omega)
                  obtain ⟨n, hn⟩ : ∃ n, n = V.getD s 0 := ⟨_, rfl⟩
                  rw [← hn] at hVs
                  have hnc := HP.out.n.getI hVs
                  have HS := Lib.hid (show rowTo R k V (s + 1) = if n = 0 then cur else putAll n cur (trans R k s) by rw [rowTo, stepS, ← hn, ← hcur])
                  have Hn64 := Lib.hid (show I64 n by rw [hn]; exact getD_I64 hV64.out s)
                  have ci := HP.out.i.c1
                  have c3 := HP.out.c.c2
                  have hsi : (s : Int) < 256 := by omega
                  have hs0 : (0 : Int) ≤ (s : Int) := by omega
                  clear hVs hn hcur
                  by_cases hn0 : n = 0
                  · subst hn0
                    have HE := Lib.hid (show rowTo R k V (s + 1) = cur by rw [HS.out, if_pos rfl])
                    go_wp2_with fail
                    go_roundw
                    case rel => exact ⟨s + 1, by omega, by go_num, by rw [HE.out]; exact HP⟩
                    case measure => simp [intOf]; omega
                  · have hnb : (n == 0) = false := by simpa using hn0
                    have HE := Lib.hid (show rowTo R k V (s + 1) = putAll n cur (trans R k s) by rw [HS.out, if_neg hn0])
                    have HH := Lib.hid (show hasBit R (X : Int) (Y : Int) = R.testBit k from hasBit_at HX.out.2 hX8 hY8)
                    obtain ⟨cv, hcv⟩ : ∃ cv, (!s.testBit X) = cv := ⟨_, rfl⟩
                    have hand : (bits BinOp.and IntKind.i64 (s : Int) (q : Int) == 0) = cv := by rw [← hcv, HQ.out]; exact and_i64 hs256 (by omega)
                    have hxn : (if (X : Int) < 0 then 1 else n) = n := if_neg (by omega)
                    clear hn0 HS
                    cases hhas : R.testBit k
                    · have HH2 := Lib.hid (HH.out.trans hhas)
                      cases hcov : s.testBit X
                      · have hc2 : cv = true := by rw [← hcv, hcov]; rfl
                        subst hc2
                        have HT := Lib.hid (show putAll n cur (trans R k s) = addAt cur s n by rw [trans_a HX.out.1 hhas hcov]; rfl)
                        clear hcv hcov hhas
                        go_wp2_with (first | (go_at_call 126; with_reducible refine (has_any R (X : Int) (Y : Int) _ hR).mono ?_; rintro e w5 ⟨rfl, hb5⟩; rw [HH2.out]; replace HP := Lib.hid (HP.out.bel hb5); replace c3 := HP.out.c.c2; clear hb5) | (go_at_call 214; with_reducible refine (HP.out.putC (k := s) (n := n) hcl hs256 Hn64.out).mono ?_; rintro e w7 ⟨rfl, HP2⟩; replace HP := Lib.hid HP2; replace c3 := HP.out.c.c2; clear HP2))
                        go_roundw
                        case rel => exact ⟨s + 1, by omega, by go_num, by rw [HE.out, HT.out]; exact HP⟩
                        case measure => simp [intOf]; omega
                      · have hc2 : cv = false := by rw [← hcv, hcov]; rfl
                        subst hc2
                        have HT := Lib.hid (show putAll n cur (trans R k s) = cur by rw [trans_b HX.out.1 hhas hcov]; rfl)
                        clear hcv hcov hhas
                        go_wp2_with (go_at_call 126; with_reducible refine (has_any R (X : Int) (Y : Int) _ hR).mono ?_; rintro e w5 ⟨rfl, hb5⟩; rw [HH2.out]; replace HP := Lib.hid (HP.out.bel hb5); replace c3 := HP.out.c.c2; clear hb5)
                        go_roundw
                        case rel => exact ⟨s + 1, by omega, by go_num, by rw [HE.out, HT.out]; exact HP⟩
                        case measure => simp [intOf]; omega
                    · have HH2 := Lib.hid (HH.out.trans hhas)
                      cases hcov : s.testBit X
                      · have hc2 : cv = true := by rw [← hcv, hcov]; rfl
                        subst hc2
                        have HT := Lib.hid (trans_d HX.out.1 hhas hcov)
                        obtain ⟨b8, hb8⟩ : ∃ b8, R.testBit (k + 8) = b8 := ⟨_, rfl⟩
                        obtain ⟨b1, hb1⟩ : ∃ b1, (decide (X < 7) && R.testBit (k + 1)) = b1 := ⟨_, rfl⟩
                        obtain ⟨c1, hc1⟩ : ∃ c1, (!s.testBit (X + 1)) = c1 := ⟨_, rfl⟩
                        obtain ⟨q1, hq1e⟩ : ∃ q1 : Nat, q1 = 2 ^ (X + 1) := ⟨_, rfl⟩
                        obtain ⟨t8, ht8⟩ : ∃ t8 : Nat, t8 = s ||| 2 ^ X := ⟨_, rfl⟩
                        obtain ⟨t1, ht1⟩ : ∃ t1 : Nat, t1 = s ||| 2 ^ (X + 1) := ⟨_, rfl⟩
                        have HB8 := Lib.hid ((hasBit_below hR HX.out.2 hX8 hk64).trans hb8)
                        have HB1 := Lib.hid ((hasBit_right (R := R) HX.out.2 hX8 hY8).trans hb1)
                        have hand1 : (bits BinOp.and IntKind.i64 (s : Int) (q1 : Int) == 0) = c1 := by rw [← hc1, hq1e]; exact and_i64 hs256 (by omega)
                        have hqq : q1 = 2 * q := by rw [hq1e, HQ.out, Nat.pow_succ, Nat.mul_comm]
                        have hor : bits BinOp.or IntKind.i64 (s : Int) (q : Int) = (t8 : Int) := by rw [HQ.out, ht8]; exact or_i64 hs256 hX8
                        have ht8l : t8 < 256 := by rw [ht8]; exact or_lt8 hs256 hX8
                        have hwy : IntKind.i64.wrap ((Y : Int) + 1) = (Y : Int) + 1 := IntWalk.i64_in _ (by omega)
                        have hwx : IntKind.i64.wrap ((X : Int) + 1) = (X : Int) + 1 := IntWalk.i64_in _ (by omega)
                        have hsh : IntKind.i64.wrap ((q : Int) * 2) = (q1 : Int) := by rw [hqq]; push_cast; rw [Int.mul_comm]; exact IntWalk.i64_in _ (by omega)
                        have hcl8 : (addAt cur t8 n).length = 256 := by rw [addAt_len]; exact hcl
                        have HT8 := Lib.hid (show trans R k s = (if b8 = true then [t8] else []) ++ (if (b1 && c1) = true then [t1] else []) by rw [HT.out, hb8, ← ht8, ← ht1, ← Bool.and_assoc, hb1, hc1])
                        have Hor1 := Lib.hid (show b1 = true → bits BinOp.or IntKind.i64 (s : Int) (q1 : Int) = (t1 : Int) ∧ t1 < 256 from fun hb => by
                          have h7 : X < 7 := by rw [hb, Bool.and_eq_true, decide_eq_true_eq] at hb1; exact hb1.1
                          rw [hq1e, ht1]
                          exact ⟨or_i64 hs256 (by omega), or_lt8 hs256 (by omega)⟩)
                        clear hcv hcov hhas HT hb8 hb1 hc1 hq1e ht8 ht1 hqq
                        cases b8
                        · cases b1
                          · have HT := Lib.hid (show putAll n cur (trans R k s) = cur by rw [HT8.out]; rfl)
                            go_wp2_with (first | (go_at_call 126; with_reducible refine (has_any R (X : Int) (Y : Int) _ hR).mono ?_; rintro e w5 ⟨rfl, hb5⟩; rw [HH2.out]; replace HP := Lib.hid (HP.out.bel hb5); replace c3 := HP.out.c.c2; clear hb5) | (go_at_call 126; with_reducible refine (has_any R (X : Int) ((Y : Int) + 1) _ hR).mono ?_; rintro e w8 ⟨rfl, hb5⟩; rw [HB8.out]; replace HP := Lib.hid (HP.out.bel hb5); replace c3 := HP.out.c.c2; clear hb5) | (go_at_call 126; with_reducible refine (has_any R ((X : Int) + 1) (Y : Int) _ hR).mono ?_; rintro e w9 ⟨rfl, hb5⟩; rw [HB1.out]; replace HP := Lib.hid (HP.out.bel hb5); replace c3 := HP.out.c.c2; clear hb5))
                            go_roundw
                            case rel => exact ⟨s + 1, by omega, by go_num, by rw [HE.out, HT.out]; exact HP⟩
                            case measure => simp [intOf]; omega
                          · obtain ⟨hor1, ht1l⟩ := Hor1.out rfl
                            cases c1
                            · have HT := Lib.hid (show putAll n cur (trans R k s) = cur by rw [HT8.out]; rfl)
                              go_wp2_with (first | (go_at_call 126; with_reducible refine (has_any R (X : Int) (Y : Int) _ hR).mono ?_; rintro e w5 ⟨rfl, hb5⟩; rw [HH2.out]; replace HP := Lib.hid (HP.out.bel hb5); replace c3 := HP.out.c.c2; clear hb5) | (go_at_call 126; with_reducible refine (has_any R (X : Int) ((Y : Int) + 1) _ hR).mono ?_; rintro e w8 ⟨rfl, hb5⟩; rw [HB8.out]; replace HP := Lib.hid (HP.out.bel hb5); replace c3 := HP.out.c.c2; clear hb5) | (go_at_call 126; with_reducible refine (has_any R ((X : Int) + 1) (Y : Int) _ hR).mono ?_; rintro e w9 ⟨rfl, hb5⟩; rw [HB1.out]; replace HP := Lib.hid (HP.out.bel hb5); replace c3 := HP.out.c.c2; clear hb5))
                              go_roundw
                              case rel => exact ⟨s + 1, by omega, by go_num, by rw [HE.out, HT.out]; exact HP⟩
                              case measure => simp [intOf]; omega
                            · have HT := Lib.hid (show putAll n cur (trans R k s) = addAt (cur) t1 n by rw [HT8.out]; rfl)
                              go_wp2_with (first | (go_at_call 126; with_reducible refine (has_any R (X : Int) (Y : Int) _ hR).mono ?_; rintro e w5 ⟨rfl, hb5⟩; rw [HH2.out]; replace HP := Lib.hid (HP.out.bel hb5); replace c3 := HP.out.c.c2; clear hb5) | (go_at_call 126; with_reducible refine (has_any R (X : Int) ((Y : Int) + 1) _ hR).mono ?_; rintro e w8 ⟨rfl, hb5⟩; rw [HB8.out]; replace HP := Lib.hid (HP.out.bel hb5); replace c3 := HP.out.c.c2; clear hb5) | (go_at_call 126; with_reducible refine (has_any R ((X : Int) + 1) (Y : Int) _ hR).mono ?_; rintro e w9 ⟨rfl, hb5⟩; rw [HB1.out]; replace HP := Lib.hid (HP.out.bel hb5); replace c3 := HP.out.c.c2; clear hb5) | (go_at_call 212; with_reducible refine (withD_any n (X : Int) (Y : Int) false n _ hxn).mono ?_; rintro e w6 ⟨rfl, hb6⟩; replace HP := Lib.hid (HP.out.bel hb6); replace c3 := HP.out.c.c2; clear hb6) | (go_at_call 214; with_reducible refine (HP.out.putC (k := t1) (n := n) hcl ht1l Hn64.out).mono ?_; rintro e w7 ⟨rfl, HP2⟩; replace HP := Lib.hid HP2; replace c3 := HP.out.c.c2; clear HP2))
                              go_roundw
                              case rel => exact ⟨s + 1, by omega, by go_num, by rw [HE.out, HT.out]; exact HP⟩
                              case measure => simp [intOf]; omega
                        · cases b1
                          · have HT := Lib.hid (show putAll n cur (trans R k s) = addAt cur t8 n by rw [HT8.out]; rfl)
                            go_wp2_with (first | (go_at_call 126; with_reducible refine (has_any R (X : Int) (Y : Int) _ hR).mono ?_; rintro e w5 ⟨rfl, hb5⟩; rw [HH2.out]; replace HP := Lib.hid (HP.out.bel hb5); replace c3 := HP.out.c.c2; clear hb5) | (go_at_call 126; with_reducible refine (has_any R (X : Int) ((Y : Int) + 1) _ hR).mono ?_; rintro e w8 ⟨rfl, hb5⟩; rw [HB8.out]; replace HP := Lib.hid (HP.out.bel hb5); replace c3 := HP.out.c.c2; clear hb5) | (go_at_call 126; with_reducible refine (has_any R ((X : Int) + 1) (Y : Int) _ hR).mono ?_; rintro e w9 ⟨rfl, hb5⟩; rw [HB1.out]; replace HP := Lib.hid (HP.out.bel hb5); replace c3 := HP.out.c.c2; clear hb5) | (go_at_call 212; with_reducible refine (withD_any n (X : Int) (Y : Int) true n _ hxn).mono ?_; rintro e w6 ⟨rfl, hb6⟩; replace HP := Lib.hid (HP.out.bel hb6); replace c3 := HP.out.c.c2; clear hb6) | (go_at_call 214; with_reducible refine (HP.out.putC (k := t8) (n := n) hcl ht8l Hn64.out).mono ?_; rintro e w7 ⟨rfl, HP2⟩; replace HP := Lib.hid HP2; replace c3 := HP.out.c.c2; clear HP2))
                            go_roundw
                            case rel => exact ⟨s + 1, by omega, by go_num, by rw [HE.out, HT.out]; exact HP⟩
                            case measure => simp [intOf]; omega
                          · obtain ⟨hor1, ht1l⟩ := Hor1.out rfl
                            cases c1
                            · have HT := Lib.hid (show putAll n cur (trans R k s) = addAt cur t8 n by rw [HT8.out]; rfl)
                              go_wp2_with (first | (go_at_call 126; with_reducible refine (has_any R (X : Int) (Y : Int) _ hR).mono ?_; rintro e w5 ⟨rfl, hb5⟩; rw [HH2.out]; replace HP := Lib.hid (HP.out.bel hb5); replace c3 := HP.out.c.c2; clear hb5) | (go_at_call 126; with_reducible refine (has_any R (X : Int) ((Y : Int) + 1) _ hR).mono ?_; rintro e w8 ⟨rfl, hb5⟩; rw [HB8.out]; replace HP := Lib.hid (HP.out.bel hb5); replace c3 := HP.out.c.c2; clear hb5) | (go_at_call 126; with_reducible refine (has_any R ((X : Int) + 1) (Y : Int) _ hR).mono ?_; rintro e w9 ⟨rfl, hb5⟩; rw [HB1.out]; replace HP := Lib.hid (HP.out.bel hb5); replace c3 := HP.out.c.c2; clear hb5) | (go_at_call 212; with_reducible refine (withD_any n (X : Int) (Y : Int) true n _ hxn).mono ?_; rintro e w6 ⟨rfl, hb6⟩; replace HP := Lib.hid (HP.out.bel hb6); replace c3 := HP.out.c.c2; clear hb6) | (go_at_call 214; with_reducible refine (HP.out.putC (k := t8) (n := n) hcl ht8l Hn64.out).mono ?_; rintro e w7 ⟨rfl, HP2⟩; replace HP := Lib.hid HP2; replace c3 := HP.out.c.c2; clear HP2))
                              go_roundw
                              case rel => exact ⟨s + 1, by omega, by go_num, by rw [HE.out, HT.out]; exact HP⟩
                              case measure => simp [intOf]; omega
                            · have HT := Lib.hid (show putAll n cur (trans R k s) = addAt (addAt cur t8 n) t1 n by rw [HT8.out]; rfl)
                              go_wp2_with (first | (go_at_call 126; with_reducible refine (has_any R (X : Int) (Y : Int) _ hR).mono ?_; rintro e w5 ⟨rfl, hb5⟩; rw [HH2.out]; replace HP := Lib.hid (HP.out.bel hb5); replace c3 := HP.out.c.c2; clear hb5) | (go_at_call 126; with_reducible refine (has_any R (X : Int) ((Y : Int) + 1) _ hR).mono ?_; rintro e w8 ⟨rfl, hb5⟩; rw [HB8.out]; replace HP := Lib.hid (HP.out.bel hb5); replace c3 := HP.out.c.c2; clear hb5) | (go_at_call 126; with_reducible refine (has_any R ((X : Int) + 1) (Y : Int) _ hR).mono ?_; rintro e w9 ⟨rfl, hb5⟩; rw [HB1.out]; replace HP := Lib.hid (HP.out.bel hb5); replace c3 := HP.out.c.c2; clear hb5) | (go_at_call 212; with_reducible refine (withD_any n (X : Int) (Y : Int) true n _ hxn).mono ?_; rintro e w6 ⟨rfl, hb6⟩; replace HP := Lib.hid (HP.out.bel hb6); replace c3 := HP.out.c.c2; clear hb6) | (go_at_call 212; with_reducible refine (withD_any n (X : Int) (Y : Int) false n _ hxn).mono ?_; rintro e w6 ⟨rfl, hb6⟩; replace HP := Lib.hid (HP.out.bel hb6); replace c3 := HP.out.c.c2; clear hb6) | (go_at_call 214; with_reducible refine (HP.out.putC (k := t8) (n := n) hcl ht8l Hn64.out).mono ?_; rintro e w7 ⟨rfl, HP2⟩; replace HP := Lib.hid HP2; replace c3 := HP.out.c.c2; clear HP2) | (go_at_call 214; with_reducible refine (HP.out.putC (k := t1) (n := n) hcl8 ht1l Hn64.out).mono ?_; rintro e w7 ⟨rfl, HP2⟩; replace HP := Lib.hid HP2; replace c3 := HP.out.c.c2; clear HP2))
                              go_roundw
                              case rel => exact ⟨s + 1, by omega, by go_num, by rw [HE.out, HT.out]; exact HP⟩
                              case measure => simp [intOf]; omega
                      · have hc2 : cv = false := by rw [← hcv, hcov]; rfl
                        subst hc2
                        obtain ⟨s2, hs2⟩ : ∃ s2 : Nat, s2 = s - 2 ^ X := ⟨_, rfl⟩
                        have hsub : bits BinOp.andNot IntKind.i64 (s : Int) (q : Int) = (s2 : Int) := by rw [HQ.out, hs2]; exact andnot_i64 hs256 hX8 hcov
                        have hs2l : s2 < 256 := by rw [hs2]; exact Nat.lt_of_le_of_lt (Nat.sub_le _ _) hs256
                        have HT := Lib.hid (show putAll n cur (trans R k s) = addAt cur s2 n by rw [trans_c HX.out.1 hhas hcov, ← hs2]; rfl)
                        clear hcv hcov hhas hs2
                        go_wp2_with (first | (go_at_call 126; with_reducible refine (has_any R (X : Int) (Y : Int) _ hR).mono ?_; rintro e w5 ⟨rfl, hb5⟩; rw [HH2.out]; replace HP := Lib.hid (HP.out.bel hb5); replace c3 := HP.out.c.c2; clear hb5) | (go_at_call 214; with_reducible refine (HP.out.putC (k := s2) (n := n) hcl hs2l Hn64.out).mono ?_; rintro e w7 ⟨rfl, HP2⟩; replace HP := Lib.hid HP2; replace c3 := HP.out.c.c2; clear HP2))
                        go_roundw
                        case rel => exact ⟨s + 1, by omega, by go_num, by rw [HE.out, HT.out]; exact HP⟩
                        case measure => simp [intOf]; omega
                · obtain rfl : s = 256 := by omega
                  have HV2 := Lib.hid (show dpL R (k + 1) = cur by rw [hcur, HV.out, dpL])
                  have c4 := HP.out.s.c1
                  clear hcur hs hs256
                  go_wp2_with fail
                  go_roundw
                  case rel => exact ⟨k + 1, z + 1, by omega, by go_num, rfl, by omega, by rw [HV2.out]; exact Lib.hid HP.out.m, Lib.hid HP.out.i, Lib.hid HP.out.f, Lib.hid HP.out.b⟩
                  case measure => simp [intOf]; omega
        · obtain rfl : k = 64 := by omega
          obtain ⟨D, hD⟩ : ∃ D, D = dpL R 64 := ⟨_, rfl⟩
          rw [← hD] at HN
          have hDl : D.length = 256 := by rw [hD]; exact dpL_len R 64
          have hc0 := HN.out.getI (getD_at (l := D) (i := 0) (by omega))
          obtain ⟨v, hv⟩ : ∃ v, v = D.getD 0 0 := ⟨_, rfl⟩
          rw [← hv] at hc0
          have HVV := Lib.hid (show countD R = v by rw [hv, hD]; rfl)
          clear hv hD hDl hk64 hk
          go_wp2_with fail
          go_ret
          exact ⟨ret_int HVV.out.symm, HB.out⟩
set_option maxRecDepth 100000 in
set_option maxHeartbeats 4000000 in
theorem count_any (R : Nat) (w : World) (hR : R < 18446744073709551616) (v : Int) (hv : countD R = v) :
    Calls Try.prog 204 #[.int .u64 R] w fun e w' => e = .returned (.int .i64 v) ∧ Below w.heap.size w w' := by
  have hB := Below.refl w.heap.size w
  have HV := Lib.hid hv
  clear hv
  go_enter Try.func204, Try.ntmps204
  go_wp2_with (go_at_call 210; refine (profile_any R _ hR).mono ?_; rintro e w1 ⟨rfl, hb1⟩; rw [HV.out])
  go_ret
  exact ⟨rfl, hb1⟩
theorem rset_eq (A : Option Addr) (c : Nat) (l : List Int) (w : World) (h : regOk l = true) (hr : RdI w A l) (S : Nat) (hS : regSet l = S) :
    Calls Try.prog 121 #[.agg #[.slice A l.length c]] w fun e w' => e = .returned (.int .u64 S) ∧ Below w.heap.size w w' := by
  subst hS; exact rset_any A c l w h hr
set_option maxRecDepth 100000 in
set_option maxHeartbeats 4000000 in
theorem CountTilings_i (A : Option Addr) (c : Nat) (l : List Int) (w : World) (hl : l.length ≤ 1048576) (hr : RdI w A l) (v : Int) (hv : cntT l = v) :
    Calls Try.prog 184 #[.agg #[.slice A l.length c]] w fun e w' => e = .returned (.int .i64 v) ∧ Below w.heap.size w w' := by
  (have hB := Below.refl w.heap.size w; have P := Blk.new w 31 [.slice A l.length c]; have Pc := P.c1)
  have hr' := Lib.hid hr
  clear hr
  cases h : regOk l
  · have H := Lib.hid (show (0 : Int) = v by rw [← hv, cntT, h]; rfl)
    clear hv
    go_enter Try.func184, Try.ntmps184
    go_wp2_with (go_at_call 98; refine (RegionOk_i A c l _ hl (hr'.out.below (bl_trans hB (by go_grown)))).mono ?_; rintro e wn ⟨rfl, hbn⟩; have hSz := bl_sz (bl_trans hB (by go_grown)) hbn; replace hB := bl_trans (bl_trans hB (by go_grown)) hbn; replace P := P.bel (bl_trans (by go_grown) hbn); replace Pc := P.c1; clear hbn)
    go_ret
    exact ⟨ret_int H.out, hB⟩
  · have HK := Lib.hid h
    have hlt := regSet_lt h
    have hv2 := (cntT_yes h).symm.trans hv
    obtain ⟨S, hS⟩ : ∃ S, regSet l = S := ⟨_, rfl⟩
    have HSS := Lib.hid hS
    rw [hS] at hv2 hlt
    have HS := Lib.hid hlt
    have HV := Lib.hid hv2
    clear hv h hS hlt hv2
    go_enter Try.func184, Try.ntmps184
    go_wp2_with (go_at_call 98; refine (RegionOk_i A c l _ hl (hr'.out.below (bl_trans hB (by go_grown)))).mono ?_; rintro e wn ⟨rfl, hbn⟩; have hSz := bl_sz (bl_trans hB (by go_grown)) hbn; replace hB := bl_trans (bl_trans hB (by go_grown)) hbn; replace P := P.bel (bl_trans (by go_grown) hbn); replace Pc := P.c1; rw [HK.out]; clear hbn)
    (refine (rset_eq A c l _ HK.out (hr'.out.below hB) S HSS.out).mono ?_; rintro e wn ⟨rfl, hbn⟩; have hSz := bl_sz (bl_trans hB (by go_grown)) hbn; replace hB := bl_trans (bl_trans hB (by go_grown)) hbn; replace P := P.bel (bl_trans (by go_grown) hbn); replace Pc := P.c1; clear hbn)
    go_wp2_with fail
    (refine (count_any S _ HS.out v HV.out).mono ?_; rintro e wn ⟨rfl, hbn⟩; have hSz := bl_sz (bl_trans hB (by go_grown)) hbn; replace hB := bl_trans (bl_trans hB (by go_grown)) hbn; replace P := P.bel (bl_trans (by go_grown) hbn); replace Pc := P.c1; clear hbn)
    go_wp2_with fail
    go_ret
    exact ⟨rfl, hB⟩
end Go.Proofs.Ytdcjhfmkkcakhaa

/-
  Contracts of the functions on two dominoes, and of a domino's set of cells: what each returns, as a function of its arguments; nothing that was there is written; no statement is proved here.
-/
import Derived.Test.YtdcjhfmkkcakhaaBits
namespace Go.Proofs.Ytdcjhfmkkcakhaa
open Go.ChangeShapes Go.WideShapes Go.ChangeAt Go.RowKit Go.Deep
set_option linter.unusedVariables false

theorem with_any (s : Nat) (x y : Int) (w : World) (hs : s < 18446744073709551616) (h : cellOk x y = true) :
    Calls Try.prog 178 #[.int .u64 s, .agg #[.int .i64 x, .int .i64 y]] w fun e w' => e = .returned (.int .u64 ((s ||| nthBit x y : Nat) : Int)) ∧ Below w.heap.size w w' := by
  have hc := cellOk_iff.1 h
  have P := Blk.new w 35 [.int .i64 x, .int .i64 y]
  have Pc := P.c2
  have hB := Below.refl w.heap.size w
  have hi : cellIdx x y = y * 8 + x := by simp [cellIdx, h]
  have hi' := Lib.hid hi
  have hf : bits .or .u64 (s : Int) (IntKind.u64.wrap ((2 : Int) ^ (y * 8 + x).toNat)) = ((s ||| nthBit x y : Nat) : Int) := by
    rw [wrap_pow (by omega)]; exact u64_or_nat _ _ hs (nthBit_lt h)
  have hf' := Lib.hid hf
  clear hi hf
  go_enter Try.func178, Try.ntmps178
  go_wp2_with (go_at_call 192; refine (CellIndex_i _ _ _).mono ?_; rintro e wn ⟨rfl, hbn⟩; have hSz := bl_sz (bl_trans hB (by go_grown)) hbn; replace hB := bl_trans (bl_trans hB (by go_grown)) hbn; replace P := P.bel (bl_trans (by go_grown) hbn); replace Pc := P.c2; rw [hi'.out]; clear hbn)
  go_ret
  exact ⟨ret_int hf'.out, (by first | (go_grown; done) | exact bl_trans hB (by go_grown))⟩
set_option maxHeartbeats 1000000 in
theorem dset_any (x y : Int) (z : Bool) (w : World) (h : domOk x y z = true) :
    Calls Try.prog 190 #[.agg #[.int .i64 x, .int .i64 y, .bool z]] w fun e w' => e = .returned (.int .u64 (setD x y z)) ∧ Below w.heap.size w w' := by
  have hc := domOk_cells h
  have hz := nthBit_lt hc.1
  (have hB := Below.refl w.heap.size w; have P := Blk.new w 53 [.int .i64 x, .int .i64 y, .bool z]; have Pc := P.c3)
  go_enter Try.func190, Try.ntmps190
  go_wp2_with (go_at_call 145; refine (ends_any _ _ _ _).mono ?_; rintro e wn ⟨rfl, hbn⟩; have hSz := bl_sz (bl_trans hB (by go_grown)) hbn; replace hB := bl_trans (bl_trans hB (by go_grown)) hbn; replace P := P.bel (bl_trans (by go_grown) hbn); replace Pc := P.c3; replace P := (Blk.new wn 35 [.int .i64 x, .int .i64 y]).alloc (.cells #[.int .i64 (sndX x z), .int .i64 (sndY y z)] 35); have Pc := P.c2; have Q := Blk.new2 wn (.cells #[.int .i64 x, .int .i64 y] 35) 35 [.int .i64 (sndX x z), .int .i64 (sndY y z)]; have Qc := Q.c2; clear hbn)
  have p0 := bq_cell Pc.1
  have p1 := bq_cell Pc.2
  have q0 := bq_cell Qc.1
  have q1 := bq_cell Qc.2
  (refine wp_region_quiet_bel (by kernel_rfl) (by kernel_rfl) ?_; (repeat (first | go_big_quiet_step (first | (go_at_call_of 178 (Value.int IntKind.u64 0); exact Calls.bel_of (with_any 0 _ _ _ (by decide) hc.1)) | (go_at_call 178; exact Calls.bel_of (with_any _ _ _ _ (by simpa using hz) hc.2))) | quiet_step (first | (go_at_call_of 178 (Value.int IntKind.u64 0); exact Calls.bel_of (with_any 0 _ _ _ (by decide) hc.1)) | (go_at_call 178; exact Calls.bel_of (with_any _ _ _ _ (by simpa using hz) hc.2))))); refine wpQuiet_nil ?_; intro wq hw0; obtain ⟨⟨_, hbq⟩, hw1⟩ := hw0; subst hw1; try dsimp only)
  go_wp2
  go_ret
  exact ⟨ret_int (by simp [setD]), bl_trans (bl_trans hB (by go_grown)) hbq⟩
set_option maxHeartbeats 1000000 in
theorem DoOverlap_i (x y : Int) (z : Bool) (a b : Int) (c : Bool) (w : World) :
    Calls Try.prog 144 #[.agg #[.int .i64 x, .int .i64 y, .bool z], .agg #[.int .i64 a, .int .i64 b, .bool c]] w fun e w' => e = .returned (.bool (ovl x y z a b c)) ∧ Below w.heap.size w w' := by
  (have hB := Below.refl w.heap.size w; have P := (Blk.new w 53 [.int .i64 x, .int .i64 y, .bool z]).alloc (.cells #[.int .i64 a, .int .i64 b, .bool c] 53); have Pc := P.c3; have Q := Blk.new2 w (.cells #[.int .i64 x, .int .i64 y, .bool z] 53) 53 [.int .i64 a, .int .i64 b, .bool c]; have Qc := Q.c3)
  have p0 := bq_cell Pc.1
  have p1 := bq_cell Pc.2.1
  have p2 := bq_cell Pc.2.2
  have q0 := bq_cell Qc.1
  have q1 := bq_cell Qc.2.1
  have q2 := bq_cell Qc.2.2
  cases h1 : domOk x y z
  · go_enter Try.func144, Try.ntmps144
    go_wp2
    (refine wp_region_quiet_bel (by kernel_rfl) (by kernel_rfl) ?_; (repeat (first | go_big_quiet_step ((go_at_call 143; exact Calls.bel_of (DominoOk_i _ _ _ _))) | quiet_step ((go_at_call 143; exact Calls.bel_of (DominoOk_i _ _ _ _))))); refine wpQuiet_nil ?_; intro wq hw0; obtain ⟨⟨_, hbq⟩, hw1⟩ := hw0; subst hw1; try dsimp only)
    go_wp2
    go_ret
    exact ⟨ret_bool (by simp [ovl, h1]), bl_trans (by go_grown) hbq⟩
  · cases h2 : domOk a b c
    · go_enter Try.func144, Try.ntmps144
      go_wp2
      (refine wp_region_quiet_bel (by kernel_rfl) (by kernel_rfl) ?_; (repeat (first | go_big_quiet_step ((go_at_call 143; exact Calls.bel_of (DominoOk_i _ _ _ _))) | quiet_step ((go_at_call 143; exact Calls.bel_of (DominoOk_i _ _ _ _))))); refine wpQuiet_nil ?_; intro wq hw0; obtain ⟨⟨_, hbq⟩, hw1⟩ := hw0; subst hw1; try dsimp only)
      go_wp2
      go_ret
      exact ⟨ret_bool (by simp [ovl, h2]), bl_trans (by go_grown) hbq⟩
    · have H := Lib.hid (ovl_set h1 h2)
      have hf := Lib.hid (u64_and_nat _ _ (setD_lt h1) (setD_lt h2))
      go_enter Try.func144, Try.ntmps144
      go_wp2
      (refine wp_region_quiet_bel (by kernel_rfl) (by kernel_rfl) ?_; (repeat (first | go_big_quiet_step (first | (go_at_call 143; exact Calls.bel_of (DominoOk_i _ _ _ _)) | (go_at_call 190; exact Calls.bel_of (dset_any _ _ _ _ (by assumption)))) | quiet_step (first | (go_at_call 143; exact Calls.bel_of (DominoOk_i _ _ _ _)) | (go_at_call 190; exact Calls.bel_of (dset_any _ _ _ _ (by assumption)))))); refine wpQuiet_nil ?_; intro wq hw0; obtain ⟨⟨_, hbq⟩, hw1⟩ := hw0; subst hw1; try dsimp only)
      go_wp2
      go_ret
      exact ⟨ret_bool (by rw [hf.out]; exact H.out), bl_trans (by go_grown) hbq⟩
set_option maxHeartbeats 1000000 in
theorem CellsUnder_yes (x y : Int) (z : Bool) (w : World) (h : domOk x y z = true) :
    Calls Try.prog 82 #[.agg #[.int .i64 x, .int .i64 y, .bool z]] w fun e w' => e = .returned (.tuple #[.agg #[.int .i64 x, .int .i64 y], .agg #[.int .i64 (sndX x z), .int .i64 (sndY y z)]]) ∧ Below w.heap.size w w' := by
  have hB := Below.refl w.heap.size w
  have P := ((Blk.new w 53 [.int .i64 x, .int .i64 y, .bool z]).alloc (.cells #[.int .i64 0, .int .i64 0] 35)).alloc (.cells #[.int .i64 0, .int .i64 0] 35)
  have Pc := P.c3
  have R := (Blk.new2 w (.cells #[.int .i64 x, .int .i64 y, .bool z] 53) 35 [.int .i64 0, .int .i64 0]).alloc (.cells #[.int .i64 0, .int .i64 0] 35)
  have Rc := R.c2
  have S := Blk.new3 w (.cells #[.int .i64 x, .int .i64 y, .bool z] 53) (.cells #[.int .i64 0, .int .i64 0] 35) 35 [.int .i64 0, .int .i64 0]
  have Sc := S.c2
  go_enter Try.func82, Try.ntmps82
  go_wp2_with (go_at_call 168; refine (DominoOk_s _ _ _ _).mono ?_; rintro e wn ⟨rfl, hbn⟩; have hSz := bl_sz (bl_trans hB (by go_grown)) hbn; replace hB := bl_trans (bl_trans hB (by go_grown)) hbn; replace P := P.bel (bl_trans (by go_grown) hbn); replace Pc := P.c3; replace R := R.bel (bl_trans (by go_grown) hbn); replace Rc := R.c2; replace S := S.bel (bl_trans (by go_grown) hbn); replace Sc := S.c2; clear hbn)
  go_region_held3 (fun w' => w'.cell? ⟨w.heap.size, 0, none⟩ = some (.int .i64 x) ∧ w'.cell? ⟨w.heap.size, 1, none⟩ = some (.int .i64 y) ∧ w'.cell? ⟨w.heap.size, 2, none⟩ = some (.bool z)) (go_keep)
    (first | (go_at_call 169; refine (l05Second_any _ _ _ _).mono ?_; rintro e wn ⟨rfl, hbn⟩; have hSz := bl_sz (bl_trans hB (by go_grown)) hbn; replace hB := bl_trans (bl_trans hB (by go_grown)) hbn; replace P := P.bel (bl_trans (by go_grown) hbn); replace Pc := P.c3; replace R := R.bel (bl_trans (by go_grown) hbn); replace Rc := R.c2; replace S := S.bel (bl_trans (by go_grown) hbn); replace Sc := S.c2; have Rf := R.frozen 0; have Rf1 := R.frozen 1; have Sf := S.frozen 0; have Sf1 := S.frozen 1; have R4 := (((R.set_ 0 (.int .i64 x)).set_ 1 (.int .i64 y)).farN (w.heap.size + 1 + 1) 0 (by omega) (.int .i64 (sndX x z))).farN (w.heap.size + 1 + 1) 1 (by omega) (.int .i64 (sndY y z)); have S4 := (((S.farN (w.heap.size + 1) 0 (by omega) (.int .i64 x)).farN (w.heap.size + 1) 1 (by omega) (.int .i64 y)).set_ 0 (.int .i64 (sndX x z))).set_ 1 (.int .i64 (sndY y z)); have P4 := (((P.farN (w.heap.size + 1) 0 (by omega) (.int .i64 x)).farN (w.heap.size + 1) 1 (by omega) (.int .i64 y)).farN (w.heap.size + 1 + 1) 0 (by omega) (.int .i64 (sndX x z))).farN (w.heap.size + 1 + 1) 1 (by omega) (.int .i64 (sndY y z)); have P4c := P4.c3; clear hbn))
  go_wp2
  exact bodyPost_ret (res_pair rfl rfl rfl R4 S4) rfl ⟨rfl, (by first | (go_grown; done) | exact bl_trans hB (by go_grown))⟩
theorem CellsUnder_no (x y : Int) (z : Bool) (w : World) (h : domOk x y z = false) :
    Calls Try.prog 82 #[.agg #[.int .i64 x, .int .i64 y, .bool z]] w fun e w' => e = .returned (.tuple #[.agg #[.int .i64 0, .int .i64 0], .agg #[.int .i64 0, .int .i64 0]]) ∧ Below w.heap.size w w' := by
  have hB := Below.refl w.heap.size w
  have P := ((Blk.new w 53 [.int .i64 x, .int .i64 y, .bool z]).alloc (.cells #[.int .i64 0, .int .i64 0] 35)).alloc (.cells #[.int .i64 0, .int .i64 0] 35)
  have Pc := P.c3
  have R := (Blk.new2 w (.cells #[.int .i64 x, .int .i64 y, .bool z] 53) 35 [.int .i64 0, .int .i64 0]).alloc (.cells #[.int .i64 0, .int .i64 0] 35)
  have Rc := R.c2
  have S := Blk.new3 w (.cells #[.int .i64 x, .int .i64 y, .bool z] 53) (.cells #[.int .i64 0, .int .i64 0] 35) 35 [.int .i64 0, .int .i64 0]
  have Sc := S.c2
  go_enter Try.func82, Try.ntmps82
  go_wp2_with (go_at_call 168; refine (DominoOk_s _ _ _ _).mono ?_; rintro e wn ⟨rfl, hbn⟩; have hSz := bl_sz (bl_trans hB (by go_grown)) hbn; replace hB := bl_trans (bl_trans hB (by go_grown)) hbn; replace P := P.bel (bl_trans (by go_grown) hbn); replace Pc := P.c3; replace R := R.bel (bl_trans (by go_grown) hbn); replace Rc := R.c2; replace S := S.bel (bl_trans (by go_grown) hbn); replace Sc := S.c2; have Rf := R.frozen 0; have Rf1 := R.frozen 1; have Sf := S.frozen 0; have Sf1 := S.frozen 1; have R4 := (((R.set_ 0 (.int .i64 0)).set_ 1 (.int .i64 0)).farN (w.heap.size + 1 + 1) 0 (by omega) (.int .i64 0)).farN (w.heap.size + 1 + 1) 1 (by omega) (.int .i64 0); have S4 := (((S.farN (w.heap.size + 1) 0 (by omega) (.int .i64 0)).farN (w.heap.size + 1) 1 (by omega) (.int .i64 0)).set_ 0 (.int .i64 0)).set_ 1 (.int .i64 0); have P4 := (((P.farN (w.heap.size + 1) 0 (by omega) (.int .i64 0)).farN (w.heap.size + 1) 1 (by omega) (.int .i64 0)).farN (w.heap.size + 1 + 1) 0 (by omega) (.int .i64 0)).farN (w.heap.size + 1 + 1) 1 (by omega) (.int .i64 0); have P4c := P4.c3; clear hbn)
  exact bodyPost_ret (res_pair rfl rfl rfl R4 S4) rfl ⟨rfl, (by first | (go_grown; done) | exact bl_trans hB (by go_grown))⟩
end Go.Proofs.Ytdcjhfmkkcakhaa

/-
  Contracts of the functions on cells and dominoes: what each returns, as a function of its arguments; nothing that was there is written; no statement is proved here; no condition but that the numbers are int64.
-/
import Derived.Test.YtdcjhfmkkcakhaaNum
namespace Go.Proofs.Ytdcjhfmkkcakhaa
open Go.ChangeShapes Go.WideShapes Go.ChangeAt Go.RowKit Go.Deep
set_option linter.unusedVariables false

def cellOk (x y : Int) : Bool := inB x 0 7 && inB y 0 7
theorem cellOk_iff {x y : Int} : cellOk x y = true ↔ (0 ≤ x ∧ x ≤ 7) ∧ 0 ≤ y ∧ y ≤ 7 := by simp [cellOk, inB]
def cellIdx (x y : Int) : Int := if cellOk x y then y * 8 + x else -1
def nbr (a b c d : Int) : Bool := cellOk a b && cellOk c d && decide ((a - c) * (a - c) + (b - d) * (b - d) = 1)
def sndX (x : Int) (z : Bool) : Int := if z then x else wrap64 (x + 1)
def sndY (y : Int) (z : Bool) : Int := if z then wrap64 (y + 1) else y
def domOk (x y : Int) (z : Bool) : Bool := cellOk x y && cellOk (sndX x z) (sndY y z)

theorem sq_le {x : Int} (h1 : -7 ≤ x) (h2 : x ≤ 7) : 0 ≤ x * x ∧ x * x ≤ 49 := by
  have h : x = -7 ∨ x = -6 ∨ x = -5 ∨ x = -4 ∨ x = -3 ∨ x = -2 ∨ x = -1 ∨ x = 0 ∨ x = 1 ∨ x = 2 ∨ x = 3 ∨ x = 4 ∨ x = 5 ∨ x = 6 ∨ x = 7 := by omega
  rcases h with rfl | rfl | rfl | rfl | rfl | rfl | rfl | rfl | rfl | rfl | rfl | rfl | rfl | rfl | rfl <;> decide
theorem sq_cases {x : Int} (h1 : -7 ≤ x) (h2 : x ≤ 7) : (max x (-x) = 0 ∧ x * x = 0) ∨ (max x (-x) = 1 ∧ x * x = 1) ∨ (2 ≤ max x (-x) ∧ 4 ≤ x * x) := by
  have h : x = -7 ∨ x = -6 ∨ x = -5 ∨ x = -4 ∨ x = -3 ∨ x = -2 ∨ x = -1 ∨ x = 0 ∨ x = 1 ∨ x = 2 ∨ x = 3 ∨ x = 4 ∨ x = 5 ∨ x = 6 ∨ x = 7 := by omega
  rcases h with rfl | rfl | rfl | rfl | rfl | rfl | rfl | rfl | rfl | rfl | rfl | rfl | rfl | rfl | rfl <;> decide
theorem nbr_abs {a b c d : Int} (h1 : cellOk a b = true) (h2 : cellOk c d = true) : (max (a - c) (-(a - c)) + max (b - d) (-(b - d)) == 1) = nbr a b c d := by
  have i1 := cellOk_iff.1 h1
  have i2 := cellOk_iff.1 h2
  have s1 := sq_cases (x := a - c) (by omega) (by omega)
  have s2 := sq_cases (x := b - d) (by omega) (by omega)
  rw [nbr, h1, h2, Bool.eq_iff_iff]
  simp only [beq_iff_eq, Bool.and_self, Bool.true_and, decide_eq_true_eq]
  omega
theorem nbr_sq {a b c d : Int} (h1 : cellOk a b = true) (h2 : cellOk c d = true) : ((a - c) * (a - c) + (b - d) * (b - d) == 1) = nbr a b c d := by
  rw [nbr, h1, h2, Bool.eq_iff_iff]
  simp only [beq_iff_eq, Bool.and_self, Bool.true_and, decide_eq_true_eq]
theorem eqIn_cell (e : Nat) (a b c d : Int) (w : World) : (Op.equalIn (e + 1 + 1) 35 (.agg #[.int .i64 a, .int .i64 b]) (.agg #[.int .i64 c, .int .i64 d])).run Try.prog w = .ok (a == c && b == d) w := by
  have h1 : (Try.prog.stoodInHeld 35) = false := by kernel_rfl
  have h2 : Try.prog.underlying 35 = some (.struct (Try.prog.fieldsOf 35)) := by kernel_rfl
  have h3 := TypeDesc.struct.inj (Option.some.inj (Try.underlying35.symm.trans h2))
  rw [run_equalIn_agg _ _ _ _ _ h2 h1, ← h3]
  cases h4 : a == c <;> cases h5 : b == d <;> simp [Op.eqFields, go_sem, h4, h5, part]
theorem eq_cell (a b c d : Int) (w : World) : (binOp .eql 35 (.agg #[.int .i64 a, .int .i64 b]) (.agg #[.int .i64 c, .int .i64 d])).run Try.prog w = .ok (.bool (a == c && b == d)) w := by
  rw [run_eql_struct]
  have := eqIn_cell 9998 a b c d w
  rw [show Op.equalIn 10000 35 (.agg #[.int .i64 a, .int .i64 b]) (.agg #[.int .i64 c, .int .i64 d]) = Op.equalIn (9998 + 1 + 1) 35 (.agg #[.int .i64 a, .int .i64 b]) (.agg #[.int .i64 c, .int .i64 d]) from rfl, this]
  rfl
theorem neq_cell (a b c d : Int) (w : World) : (binOp .neq 35 (.agg #[.int .i64 a, .int .i64 b]) (.agg #[.int .i64 c, .int .i64 d])).run Try.prog w = .ok (.bool (!(a == c && b == d))) w := by
  rw [run_neq_struct]
  have := eqIn_cell 9998 a b c d w
  rw [show Op.equalIn 10000 35 (.agg #[.int .i64 a, .int .i64 b]) (.agg #[.int .i64 c, .int .i64 d]) = Op.equalIn (9998 + 1 + 1) 35 (.agg #[.int .i64 a, .int .i64 b]) (.agg #[.int .i64 c, .int .i64 d]) from rfl, this]
  rfl
theorem eqIn_dom (e : Nat) (a b c d : Int) (z u : Bool) (w : World) : (Op.equalIn (e + 1 + 1) 53 (.agg #[.int .i64 a, .int .i64 b, .bool z]) (.agg #[.int .i64 c, .int .i64 d, .bool u])).run Try.prog w = .ok (a == c && b == d && z == u) w := by
  have h1 : (Try.prog.stoodInHeld 53) = false := by kernel_rfl
  have h2 : Try.prog.underlying 53 = some (.struct (Try.prog.fieldsOf 53)) := by kernel_rfl
  have h3 := TypeDesc.struct.inj (Option.some.inj (Try.underlying53.symm.trans h2))
  rw [run_equalIn_agg _ _ _ _ _ h2 h1, ← h3]
  cases h4 : a == c <;> cases h5 : b == d <;> cases z <;> cases u <;> simp [Op.eqFields, go_sem, h4, h5, part]
theorem eq_dom (a b c d : Int) (z u : Bool) (w : World) : (binOp .eql 53 (.agg #[.int .i64 a, .int .i64 b, .bool z]) (.agg #[.int .i64 c, .int .i64 d, .bool u])).run Try.prog w = .ok (.bool (a == c && b == d && z == u)) w := by
  rw [run_eql_struct]
  have := eqIn_dom 9998 a b c d z u w
  rw [show Op.equalIn 10000 53 (.agg #[.int .i64 a, .int .i64 b, .bool z]) (.agg #[.int .i64 c, .int .i64 d, .bool u]) = Op.equalIn (9998 + 1 + 1) 53 (.agg #[.int .i64 a, .int .i64 b, .bool z]) (.agg #[.int .i64 c, .int .i64 d, .bool u]) from rfl, this]
  rfl
theorem neq_dom (a b c d : Int) (z u : Bool) (w : World) : (binOp .neq 53 (.agg #[.int .i64 a, .int .i64 b, .bool z]) (.agg #[.int .i64 c, .int .i64 d, .bool u])).run Try.prog w = .ok (.bool (!(a == c && b == d && z == u))) w := by
  rw [run_neq_struct]
  have := eqIn_dom 9998 a b c d z u w
  rw [show Op.equalIn 10000 53 (.agg #[.int .i64 a, .int .i64 b, .bool z]) (.agg #[.int .i64 c, .int .i64 d, .bool u]) = Op.equalIn (9998 + 1 + 1) 53 (.agg #[.int .i64 a, .int .i64 b, .bool z]) (.agg #[.int .i64 c, .int .i64 d, .bool u]) from rfl, this]
  rfl
theorem CellOk_i (x y : Int) (w : World) :
    Calls Try.prog 102 #[.agg #[.int .i64 x, .int .i64 y]] w fun e w' => e = .returned (.bool (cellOk x y)) ∧ Below w.heap.size w w' := by
  go_enter Try.func102, Try.ntmps102
  go_wp2_with (go_at_call 89; refine (within_any _ _ _ _).mono ?_; rintro e wn ⟨rfl, rfl⟩)
  all_goals go_ret
  all_goals exact ⟨by simp_all [cellOk], by go_grown⟩
theorem CellOk_s (x y : Int) (w : World) :
    Calls Try.prog 120 #[.agg #[.int .i64 x, .int .i64 y]] w fun e w' => e = .returned (.bool (cellOk x y)) ∧ Below w.heap.size w w' := by
  go_enter Try.func120, Try.ntmps120
  go_wp2_with (go_at_call 128; refine (l01In_any _ _ _ _).mono ?_; rintro e wn ⟨rfl, rfl⟩)
  all_goals go_ret
  all_goals exact ⟨by simp_all [cellOk], by go_grown⟩
theorem CellIndex_i (x y : Int) (w : World) :
    Calls Try.prog 192 #[.agg #[.int .i64 x, .int .i64 y]] w fun e w' => e = .returned (.int .i64 (cellIdx x y)) ∧ Below w.heap.size w w' := by
  (have hB := Below.refl w.heap.size w; have P := Blk.new w 35 [.int .i64 x, .int .i64 y]; have Pc := P.c2)
  cases h : cellOk x y
  · go_enter Try.func192, Try.ntmps192
    go_wp2_with (go_at_call 102; refine (CellOk_i _ _ _).mono ?_; rintro e wn ⟨rfl, hbn⟩; have hSz := bl_sz (bl_trans hB (by go_grown)) hbn; replace hB := bl_trans (bl_trans hB (by go_grown)) hbn; replace P := P.bel (bl_trans (by go_grown) hbn); replace Pc := P.c2; clear hbn)
    go_ret
    exact ⟨ret_int (by simp [cellIdx, h]), (by first | (go_grown; done) | exact bl_trans hB (by go_grown))⟩
  · have hc := cellOk_iff.1 h
    go_enter Try.func192, Try.ntmps192
    go_wp2_with (go_at_call 102; refine (CellOk_i _ _ _).mono ?_; rintro e wn ⟨rfl, hbn⟩; have hSz := bl_sz (bl_trans hB (by go_grown)) hbn; replace hB := bl_trans (bl_trans hB (by go_grown)) hbn; replace P := P.bel (bl_trans (by go_grown) hbn); replace Pc := P.c2; clear hbn)
    go_ret
    exact ⟨ret_int (by simp [cellIdx, h]), (by first | (go_grown; done) | exact bl_trans hB (by go_grown))⟩
theorem CellIndex_s (x y : Int) (w : World) :
    Calls Try.prog 180 #[.agg #[.int .i64 x, .int .i64 y]] w fun e w' => e = .returned (.int .i64 (cellIdx x y)) ∧ Below w.heap.size w w' := by
  (have hB := Below.refl w.heap.size w; have P := Blk.new w 35 [.int .i64 x, .int .i64 y]; have Pc := P.c2)
  cases h : cellOk x y
  · go_enter Try.func180, Try.ntmps180
    go_wp2_with (go_at_call 120; refine (CellOk_s _ _ _).mono ?_; rintro e wn ⟨rfl, hbn⟩; have hSz := bl_sz (bl_trans hB (by go_grown)) hbn; replace hB := bl_trans (bl_trans hB (by go_grown)) hbn; replace P := P.bel (bl_trans (by go_grown) hbn); replace Pc := P.c2; clear hbn)
    go_ret
    exact ⟨ret_int (by simp [cellIdx, h]), (by first | (go_grown; done) | exact bl_trans hB (by go_grown))⟩
  · have hc := cellOk_iff.1 h
    go_enter Try.func180, Try.ntmps180
    go_wp2_with (go_at_call 120; refine (CellOk_s _ _ _).mono ?_; rintro e wn ⟨rfl, hbn⟩; have hSz := bl_sz (bl_trans hB (by go_grown)) hbn; replace hB := bl_trans (bl_trans hB (by go_grown)) hbn; replace P := P.bel (bl_trans (by go_grown) hbn); replace Pc := P.c2; clear hbn)
    go_ret
    exact ⟨ret_int (by simp [cellIdx, h]), (by first | (go_grown; done) | exact bl_trans hB (by go_grown))⟩
theorem size_any (n : Int) (w : World) (h1 : -100 ≤ n) (h2 : n ≤ 100) :
    Calls Try.prog 197 #[.int .i64 n] w fun e w' => e = .returned (.int .i64 (max n (-n))) ∧ w = w' := by
  go_enter Try.func197, Try.ntmps197
  go_wp2
  all_goals go_ret
  all_goals exact ⟨ret_int (by omega), rfl⟩
theorem l05Second_any (x y : Int) (z : Bool) (w : World) :
    Calls Try.prog 169 #[.agg #[.int .i64 x, .int .i64 y, .bool z]] w fun e w' => e = .returned (.agg #[.int .i64 (sndX x z), .int .i64 (sndY y z)]) ∧ Below w.heap.size w w' := by
  cases z
  all_goals
    go_enter Try.func169, Try.ntmps169
    go_wp2
    go_returns
    exact ⟨by simp [sndX, sndY], by go_grown⟩
set_option maxHeartbeats 1000000 in
theorem ends_any (x y : Int) (z : Bool) (w : World) :
    Calls Try.prog 145 #[.agg #[.int .i64 x, .int .i64 y, .bool z]] w fun e w' => e = .returned (.tuple #[.agg #[.int .i64 x, .int .i64 y], .agg #[.int .i64 (sndX x z), .int .i64 (sndY y z)]]) ∧ Below w.heap.size w w' := by
  cases z
  all_goals
    go_enter Try.func145, Try.ntmps145
    go_wp2
    go_region
    go_wp2
    go_returns
    exact ⟨by simp [sndX, sndY], by go_grown⟩
set_option maxHeartbeats 2000000 in
theorem AreNeighbors_i (a b c d : Int) (w : World) :
    Calls Try.prog 146 #[.agg #[.int .i64 a, .int .i64 b], .agg #[.int .i64 c, .int .i64 d]] w fun e w' => e = .returned (.bool (nbr a b c d)) ∧ Below w.heap.size w w' := by
  (have hB := Below.refl w.heap.size w; have P := (Blk.new w 35 [.int .i64 a, .int .i64 b]).alloc (.cells #[.int .i64 c, .int .i64 d] 35); have Pc := P.c2; have Q := Blk.new2 w (.cells #[.int .i64 a, .int .i64 b] 35) 35 [.int .i64 c, .int .i64 d]; have Qc := Q.c2)
  have p0 := bq_cell Pc.1
  have p1 := bq_cell Pc.2
  have q0 := bq_cell Qc.1
  have q1 := bq_cell Qc.2
  cases h1 : cellOk a b
  · go_enter Try.func146, Try.ntmps146
    go_wp2
    (refine wp_region_quiet_bel (by kernel_rfl) (by kernel_rfl) ?_; (repeat (first | go_big_quiet_step (first | (go_at_call 102; exact Calls.bel_of (CellOk_i _ _ _)) | (go_at_call 197; exact Calls.bel_of_same (size_any _ _ (by omega) (by omega)))) | quiet_step (first | (go_at_call 102; exact Calls.bel_of (CellOk_i _ _ _)) | (go_at_call 197; exact Calls.bel_of_same (size_any _ _ (by omega) (by omega)))))); refine wpQuiet_nil ?_; intro wq hw0; obtain ⟨⟨_, hbq⟩, hw1⟩ := hw0; subst hw1; try dsimp only)
    go_wp2
    go_ret
    exact ⟨ret_bool (by simp [nbr, h1]), bl_trans (by go_grown) hbq⟩
  · cases h2 : cellOk c d
    · go_enter Try.func146, Try.ntmps146
      go_wp2
      (refine wp_region_quiet_bel (by kernel_rfl) (by kernel_rfl) ?_; (repeat (first | go_big_quiet_step (first | (go_at_call 102; exact Calls.bel_of (CellOk_i _ _ _)) | (go_at_call 197; exact Calls.bel_of_same (size_any _ _ (by omega) (by omega)))) | quiet_step (first | (go_at_call 102; exact Calls.bel_of (CellOk_i _ _ _)) | (go_at_call 197; exact Calls.bel_of_same (size_any _ _ (by omega) (by omega)))))); refine wpQuiet_nil ?_; intro wq hw0; obtain ⟨⟨_, hbq⟩, hw1⟩ := hw0; subst hw1; try dsimp only)
      go_wp2
      go_ret
      exact ⟨ret_bool (by simp [nbr, h2]), bl_trans (by go_grown) hbq⟩
    · have i1 := cellOk_iff.1 h1
      have i2 := cellOk_iff.1 h2
      go_enter Try.func146, Try.ntmps146
      go_wp2
      (refine wp_region_quiet_bel (by kernel_rfl) (by kernel_rfl) ?_; (repeat (first | go_big_quiet_step (first | (go_at_call 102; exact Calls.bel_of (CellOk_i _ _ _)) | (go_at_call 197; exact Calls.bel_of_same (size_any _ _ (by omega) (by omega)))) | quiet_step (first | (go_at_call 102; exact Calls.bel_of (CellOk_i _ _ _)) | (go_at_call 197; exact Calls.bel_of_same (size_any _ _ (by omega) (by omega)))))); refine wpQuiet_nil ?_; intro wq hw0; obtain ⟨⟨_, hbq⟩, hw1⟩ := hw0; subst hw1; try dsimp only)
      go_wp2
      go_ret
      exact ⟨ret_bool (nbr_abs h1 h2), bl_trans (by go_grown) hbq⟩
set_option maxHeartbeats 1000000 in
theorem DominoOk_i (x y : Int) (z : Bool) (w : World) :
    Calls Try.prog 143 #[.agg #[.int .i64 x, .int .i64 y, .bool z]] w fun e w' => e = .returned (.bool (domOk x y z)) ∧ Below w.heap.size w w' := by
  (have hB := Below.refl w.heap.size w; have P := Blk.new w 53 [.int .i64 x, .int .i64 y, .bool z]; have Pc := P.c3)
  go_enter Try.func143, Try.ntmps143
  go_wp2_with (first | (go_at_call 145; refine (ends_any _ _ _ _).mono ?_; rintro e wn ⟨rfl, hbn⟩; have hSz := bl_sz (bl_trans hB (by go_grown)) hbn; replace hB := bl_trans (bl_trans hB (by go_grown)) hbn; replace P := P.bel (bl_trans (by go_grown) hbn); replace Pc := P.c3; replace P := (Blk.new wn 35 [.int .i64 x, .int .i64 y]).alloc (.cells #[.int .i64 (sndX x z), .int .i64 (sndY y z)] 35); have Pc := P.c2; have Q := Blk.new2 wn (.cells #[.int .i64 x, .int .i64 y] 35) 35 [.int .i64 (sndX x z), .int .i64 (sndY y z)]; have Qc := Q.c2; clear hbn) | (go_at_call 102; refine (CellOk_i _ _ _).mono ?_; rintro e wn ⟨rfl, hbn⟩; have hSz := bl_sz (bl_trans hB (by go_grown)) hbn; replace hB := bl_trans (bl_trans hB (by go_grown)) hbn; replace P := P.bel (bl_trans (by go_grown) hbn); replace Pc := P.c2; replace Q := Q.bel (bl_trans (by go_grown) hbn); replace Qc := Q.c2; clear hbn))
  all_goals go_ret
  all_goals exact ⟨by simp_all [domOk], (by first | (go_grown; done) | exact bl_trans hB (by go_grown))⟩
theorem DominoOk_s (x y : Int) (z : Bool) (w : World) :
    Calls Try.prog 168 #[.agg #[.int .i64 x, .int .i64 y, .bool z]] w fun e w' => e = .returned (.bool (domOk x y z)) ∧ Below w.heap.size w w' := by
  (have hB := Below.refl w.heap.size w; have P := Blk.new w 53 [.int .i64 x, .int .i64 y, .bool z]; have Pc := P.c3)
  go_enter Try.func168, Try.ntmps168
  go_wp2_with (first | (go_at_call 169; refine (l05Second_any _ _ _ _).mono ?_; rintro e wn ⟨rfl, hbn⟩; have hSz := bl_sz (bl_trans hB (by go_grown)) hbn; replace hB := bl_trans (bl_trans hB (by go_grown)) hbn; replace P := P.bel (bl_trans (by go_grown) hbn); replace Pc := P.c3; clear hbn) | (go_at_call 120; refine (CellOk_s _ _ _).mono ?_; rintro e wn ⟨rfl, hbn⟩; have hSz := bl_sz (bl_trans hB (by go_grown)) hbn; replace hB := bl_trans (bl_trans hB (by go_grown)) hbn; replace P := P.bel (bl_trans (by go_grown) hbn); replace Pc := P.c3; clear hbn))
  all_goals go_ret
  all_goals exact ⟨by simp_all [domOk], (by first | (go_grown; done) | exact bl_trans hB (by go_grown))⟩
theorem AreNeighbors_s (a b c d : Int) (w : World) :
    Calls Try.prog 181 #[.agg #[.int .i64 a, .int .i64 b], .agg #[.int .i64 c, .int .i64 d]] w fun e w' => e = .returned (.bool (nbr a b c d)) ∧ Below w.heap.size w w' := by
  (have hB := Below.refl w.heap.size w; have P := (Blk.new w 35 [.int .i64 a, .int .i64 b]).alloc (.cells #[.int .i64 c, .int .i64 d] 35); have Pc := P.c2; have Q := Blk.new2 w (.cells #[.int .i64 a, .int .i64 b] 35) 35 [.int .i64 c, .int .i64 d]; have Qc := Q.c2)
  cases h1 : cellOk a b
  · go_enter Try.func181, Try.ntmps181
    go_wp2_with (go_at_call 120; refine (CellOk_s _ _ _).mono ?_; rintro e wn ⟨rfl, hbn⟩; have hSz := bl_sz (bl_trans hB (by go_grown)) hbn; replace hB := bl_trans (bl_trans hB (by go_grown)) hbn; replace P := P.bel (bl_trans (by go_grown) hbn); replace Pc := P.c2; replace Q := Q.bel (bl_trans (by go_grown) hbn); replace Qc := Q.c2; clear hbn)
    go_ret
    exact ⟨ret_bool (by simp [nbr, h1]), (by first | (go_grown; done) | exact bl_trans hB (by go_grown))⟩
  · cases h2 : cellOk c d
    · go_enter Try.func181, Try.ntmps181
      go_wp2_with (go_at_call 120; refine (CellOk_s _ _ _).mono ?_; rintro e wn ⟨rfl, hbn⟩; have hSz := bl_sz (bl_trans hB (by go_grown)) hbn; replace hB := bl_trans (bl_trans hB (by go_grown)) hbn; replace P := P.bel (bl_trans (by go_grown) hbn); replace Pc := P.c2; replace Q := Q.bel (bl_trans (by go_grown) hbn); replace Qc := Q.c2; clear hbn)
      go_ret
      exact ⟨ret_bool (by simp [nbr, h2]), (by first | (go_grown; done) | exact bl_trans hB (by go_grown))⟩
    · have i1 := cellOk_iff.1 h1
      have i2 := cellOk_iff.1 h2
      have m2 : 0 ≤ (b - d) * (b - d) ∧ (b - d) * (b - d) ≤ 49 := sq_le (by omega) (by omega)
      have m1 : 0 ≤ (a - c) * (a - c) ∧ (a - c) * (a - c) ≤ 49 := sq_le (by omega) (by omega)
      go_enter Try.func181, Try.ntmps181
      go_wp2_with (go_at_call 120; refine (CellOk_s _ _ _).mono ?_; rintro e wn ⟨rfl, hbn⟩; have hSz := bl_sz (bl_trans hB (by go_grown)) hbn; replace hB := bl_trans (bl_trans hB (by go_grown)) hbn; replace P := P.bel (bl_trans (by go_grown) hbn); replace Pc := P.c2; replace Q := Q.bel (bl_trans (by go_grown) hbn); replace Qc := Q.c2; clear hbn)
      go_ret
      exact ⟨ret_bool (nbr_sq h1 h2), (by first | (go_grown; done) | exact bl_trans hB (by go_grown))⟩
end Go.Proofs.Ytdcjhfmkkcakhaa

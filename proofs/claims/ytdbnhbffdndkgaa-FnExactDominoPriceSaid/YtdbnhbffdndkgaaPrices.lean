/-
  Contracts of PricesOk and DominoPrice (both): what each returns, as a function of its arguments; nothing that was there is written; no statement is proved here; numbers are int64.
-/
import Derived.Test.YtdbnhbffdndkgaaInts
import Derived.Test.YtdbnhbffdndkgaaDomino
namespace Go.Proofs.Ytdbnhbffdndkgaa
open Go.ChangeShapes Go.WideShapes Go.ChangeAt Go.RowKit Go.Deep

def pricesOk (a d e k : Int) : Bool := inB a 0 1000 && inB d 0 1000 && inB e 0 1000 && inB k 1 8
theorem pricesOk_iff {a d e k : Int} : pricesOk a d e k = true ↔ (0 ≤ a ∧ a ≤ 1000) ∧ (0 ≤ d ∧ d ≤ 1000) ∧ (0 ≤ e ∧ e ≤ 1000) ∧ 1 ≤ k ∧ k ≤ 8 := by simp [pricesOk, inB, and_assoc]
def price (a d e k : Int) (x y : Int) (z : Bool) : Int :=
  if pricesOk a d e k && domOk x y z then (if z then d else a) + (if x % k = 0 ∨ sndX x z % k = 0 then e else 0) else 0
theorem PricesOk_s (a d e k : Int) (w : World) :
    Calls Try.prog 22 #[.agg #[.int .i64 a, .int .i64 d, .int .i64 e, .int .i64 k]] w fun e' w' => e' = .returned (.bool (pricesOk a d e k)) ∧ Below w.heap.size w w' := by
  go_enter Try.func22, Try.ntmps22
  go_wp2_with (go_at_call 58; refine (l01In_any _ _ _ _).mono ?_; rintro e wn ⟨rfl, rfl⟩)
  all_goals go_ret
  all_goals exact ⟨ret_bool (by simp_all [pricesOk]), by go_grown⟩
theorem PricesOk_i (a d e k : Int) (w : World) (ha : I64 a) (hd : I64 d) (he : I64 e) :
    Calls Try.prog 24 #[.agg #[.int .i64 a, .int .i64 d, .int .i64 e, .int .i64 k]] w fun e' w' => e' = .returned (.bool (pricesOk a d e k)) ∧ Below w.heap.size w w' := by
  have R := Blk.new2 w (.cells #[.int .i64 a, .int .i64 d, .int .i64 e, .int .i64 k] 32) 3 [.int .i64 a, .int .i64 d, .int .i64 e]
  have hr : RdI ((w.alloc (.cells #[.int .i64 a, .int .i64 d, .int .i64 e, .int .i64 k] 32)).alloc (.cells #[.int .i64 a, .int .i64 d, .int .i64 e] 3)) (some ⟨w.heap.size + 1, 0, none⟩) [a, d, e] := by
    refine ⟨R.rd (sz := 1) (n := 3) rfl, fun x hx => ?_⟩
    simp at hx
    rcases hx with rfl | rfl | rfl <;> assumption
  have hr' := Lib.hid hr
  clear hr R
  go_enter Try.func24, Try.ntmps24
  go_wp2_with fail
  refine (allWithin_any _ _ [a, d, e] _ _ _ (by simp) hr'.out).mono ?_
  rintro e wn ⟨rfl, rfl⟩
  go_wp2_with (go_at_call 59; refine (within_any _ _ _ _).mono ?_; rintro e wn ⟨rfl, rfl⟩)
  all_goals go_ret
  all_goals exact ⟨ret_bool (by simp_all [pricesOk]), by go_grown⟩
set_option maxRecDepth 100000 in
set_option maxHeartbeats 2000000 in
theorem DominoPrice_s (a d e k x y : Int) (z : Bool) (w : World) :
    Calls Try.prog 56 #[.agg #[.int .i64 a, .int .i64 d, .int .i64 e, .int .i64 k], .agg #[.int .i64 x, .int .i64 y, .bool z]] w fun e' w' => e' = .returned (.int .i64 (price a d e k x y z)) ∧ Below w.heap.size w w' := by
  (have hB := Below.refl w.heap.size w; have P := (Blk.new w 32 [.int .i64 a, .int .i64 d, .int .i64 e, .int .i64 k]).alloc (.cells #[.int .i64 x, .int .i64 y, .bool z] 74); have Pc := P.c4; have Q := Blk.new2 w (.cells #[.int .i64 a, .int .i64 d, .int .i64 e, .int .i64 k] 32) 74 [.int .i64 x, .int .i64 y, .bool z]; have Qc := Q.c3)
  by_cases h : pricesOk a d e k = true ∧ domOk x y z = true
  · obtain ⟨h1, h2⟩ := h
    obtain ⟨i1, i2, i3, i4⟩ := pricesOk_iff.1 h1
    obtain ⟨j1, j2⟩ := domOk_cells h2
    have k1 := cellOk_iff.1 j1
    have k2 := cellOk_iff.1 j2
    go_enter Try.func56, Try.ntmps56
    cases z
    · go_wp2_with (first | (go_at_call 22; refine (PricesOk_s _ _ _ _ _).mono ?_; rintro e wn ⟨rfl, hbn⟩; replace hB := bl_trans (bl_trans hB (by go_grown)) hbn; replace P := P.bel (bl_trans (by go_grown) hbn); replace Pc := P.c4; replace Q := Q.bel (bl_trans (by go_grown) hbn); replace Qc := Q.c3; clear hbn) | (go_at_call 73; refine (DominoOk_s _ _ _ _).mono ?_; rintro e wn ⟨rfl, hbn⟩; replace hB := bl_trans (bl_trans hB (by go_grown)) hbn; replace P := P.bel (bl_trans (by go_grown) hbn); replace Pc := P.c4; replace Q := Q.bel (bl_trans (by go_grown) hbn); replace Qc := Q.c3; clear hbn))
      (refine (CellsUnder_yes _ _ _ _ h2).mono ?_; rintro e wn ⟨rfl, hbn⟩; replace hB := bl_trans (bl_trans hB (by go_grown)) hbn; replace P := P.bel (bl_trans (by go_grown) hbn); replace Pc := P.c4; replace Q := Q.bel (bl_trans (by go_grown) hbn); replace Qc := Q.c3; (have A := (Blk.new wn 85 [.int .i64 x, .int .i64 y]).alloc (.cells #[.int .i64 (sndX x false), .int .i64 (sndY y false)] 85); have Ac := A.c2; have B := Blk.new2 wn (.cells #[.int .i64 x, .int .i64 y] 85) 85 [.int .i64 (sndX x false), .int .i64 (sndY y false)]; have Bc := B.c2; replace P := (P.alloc (.cells #[.int .i64 x, .int .i64 y] 85)).alloc (.cells #[.int .i64 (sndX x false), .int .i64 (sndY y false)] 85); replace Pc := P.c4; replace Q := (Q.alloc (.cells #[.int .i64 x, .int .i64 y] 85)).alloc (.cells #[.int .i64 (sndX x false), .int .i64 (sndY y false)] 85); replace Qc := Q.c3); clear hbn)
      go_wp2_with fail
      all_goals go_ret
      all_goals exact ⟨ret_int (by simp_all [price]), (by first | (go_grown; done) | exact bl_trans hB (by go_grown))⟩
    · go_wp2_with (first | (go_at_call 22; refine (PricesOk_s _ _ _ _ _).mono ?_; rintro e wn ⟨rfl, hbn⟩; replace hB := bl_trans (bl_trans hB (by go_grown)) hbn; replace P := P.bel (bl_trans (by go_grown) hbn); replace Pc := P.c4; replace Q := Q.bel (bl_trans (by go_grown) hbn); replace Qc := Q.c3; clear hbn) | (go_at_call 73; refine (DominoOk_s _ _ _ _).mono ?_; rintro e wn ⟨rfl, hbn⟩; replace hB := bl_trans (bl_trans hB (by go_grown)) hbn; replace P := P.bel (bl_trans (by go_grown) hbn); replace Pc := P.c4; replace Q := Q.bel (bl_trans (by go_grown) hbn); replace Qc := Q.c3; clear hbn))
      (refine (CellsUnder_yes _ _ _ _ h2).mono ?_; rintro e wn ⟨rfl, hbn⟩; replace hB := bl_trans (bl_trans hB (by go_grown)) hbn; replace P := P.bel (bl_trans (by go_grown) hbn); replace Pc := P.c4; replace Q := Q.bel (bl_trans (by go_grown) hbn); replace Qc := Q.c3; (have A := (Blk.new wn 85 [.int .i64 x, .int .i64 y]).alloc (.cells #[.int .i64 (sndX x true), .int .i64 (sndY y true)] 85); have Ac := A.c2; have B := Blk.new2 wn (.cells #[.int .i64 x, .int .i64 y] 85) 85 [.int .i64 (sndX x true), .int .i64 (sndY y true)]; have Bc := B.c2; replace P := (P.alloc (.cells #[.int .i64 x, .int .i64 y] 85)).alloc (.cells #[.int .i64 (sndX x true), .int .i64 (sndY y true)] 85); replace Pc := P.c4; replace Q := (Q.alloc (.cells #[.int .i64 x, .int .i64 y] 85)).alloc (.cells #[.int .i64 (sndX x true), .int .i64 (sndY y true)] 85); replace Qc := Q.c3); clear hbn)
      go_wp2_with fail
      all_goals go_ret
      all_goals exact ⟨ret_int (by simp_all [price]), (by first | (go_grown; done) | exact bl_trans hB (by go_grown))⟩
  · go_enter Try.func56, Try.ntmps56
    go_wp2_with (first | (go_at_call 22; refine (PricesOk_s _ _ _ _ _).mono ?_; rintro e wn ⟨rfl, hbn⟩; replace hB := bl_trans (bl_trans hB (by go_grown)) hbn; replace P := P.bel (bl_trans (by go_grown) hbn); replace Pc := P.c4; replace Q := Q.bel (bl_trans (by go_grown) hbn); replace Qc := Q.c3; clear hbn) | (go_at_call 73; refine (DominoOk_s _ _ _ _).mono ?_; rintro e wn ⟨rfl, hbn⟩; replace hB := bl_trans (bl_trans hB (by go_grown)) hbn; replace P := P.bel (bl_trans (by go_grown) hbn); replace Pc := P.c4; replace Q := Q.bel (bl_trans (by go_grown) hbn); replace Qc := Q.c3; clear hbn))
    all_goals first | (exfalso; simp_all; done) | go_ret
    all_goals exact ⟨ret_int (by simp_all [price]), (by first | (go_grown; done) | exact bl_trans hB (by go_grown))⟩
set_option maxRecDepth 100000 in
set_option maxHeartbeats 2000000 in
theorem DominoPrice_i (a d e k x y : Int) (z : Bool) (w : World) (ga : I64 a) (gd : I64 d) (ge : I64 e) :
    Calls Try.prog 57 #[.agg #[.int .i64 a, .int .i64 d, .int .i64 e, .int .i64 k], .agg #[.int .i64 x, .int .i64 y, .bool z]] w fun e' w' => e' = .returned (.int .i64 (price a d e k x y z)) ∧ Below w.heap.size w w' := by
  (have hB := Below.refl w.heap.size w; have P := (Blk.new w 32 [.int .i64 a, .int .i64 d, .int .i64 e, .int .i64 k]).alloc (.cells #[.int .i64 x, .int .i64 y, .bool z] 74); have Pc := P.c4; have Q := Blk.new2 w (.cells #[.int .i64 a, .int .i64 d, .int .i64 e, .int .i64 k] 32) 74 [.int .i64 x, .int .i64 y, .bool z]; have Qc := Q.c3)
  by_cases h : pricesOk a d e k = true ∧ domOk x y z = true
  · obtain ⟨h1, h2⟩ := h
    obtain ⟨i1, i2, i3, i4⟩ := pricesOk_iff.1 h1
    obtain ⟨j1, j2⟩ := domOk_cells h2
    have k1 := cellOk_iff.1 j1
    have k2 := cellOk_iff.1 j2
    go_enter Try.func57, Try.ntmps57
    cases z
    · go_wp2_with (first | (go_at_call 24; refine (PricesOk_i _ _ _ _ _ ga gd ge).mono ?_; rintro e wn ⟨rfl, hbn⟩; replace hB := bl_trans (bl_trans hB (by go_grown)) hbn; replace P := P.bel (bl_trans (by go_grown) hbn); replace Pc := P.c4; replace Q := Q.bel (bl_trans (by go_grown) hbn); replace Qc := Q.c3; clear hbn) | (go_at_call 77; refine (DominoOk_i _ _ _ _).mono ?_; rintro e wn ⟨rfl, hbn⟩; replace hB := bl_trans (bl_trans hB (by go_grown)) hbn; replace P := P.bel (bl_trans (by go_grown) hbn); replace Pc := P.c4; replace Q := Q.bel (bl_trans (by go_grown) hbn); replace Qc := Q.c3; clear hbn))
      (refine (ends_any _ _ _ _).mono ?_; rintro e wn ⟨rfl, hbn⟩; replace hB := bl_trans (bl_trans hB (by go_grown)) hbn; replace P := P.bel (bl_trans (by go_grown) hbn); replace Pc := P.c4; replace Q := Q.bel (bl_trans (by go_grown) hbn); replace Qc := Q.c3; (have A := (Blk.new wn 85 [.int .i64 x, .int .i64 y]).alloc (.cells #[.int .i64 (sndX x false), .int .i64 (sndY y false)] 85); have Ac := A.c2; have B := Blk.new2 wn (.cells #[.int .i64 x, .int .i64 y] 85) 85 [.int .i64 (sndX x false), .int .i64 (sndY y false)]; have Bc := B.c2; replace P := (P.alloc (.cells #[.int .i64 x, .int .i64 y] 85)).alloc (.cells #[.int .i64 (sndX x false), .int .i64 (sndY y false)] 85); replace Pc := P.c4; replace Q := (Q.alloc (.cells #[.int .i64 x, .int .i64 y] 85)).alloc (.cells #[.int .i64 (sndX x false), .int .i64 (sndY y false)] 85); replace Qc := Q.c3); clear hbn)
      go_wp2_with fail
      all_goals go_ret
      all_goals exact ⟨ret_int (by simp_all [price]), (by first | (go_grown; done) | exact bl_trans hB (by go_grown))⟩
    · go_wp2_with (first | (go_at_call 24; refine (PricesOk_i _ _ _ _ _ ga gd ge).mono ?_; rintro e wn ⟨rfl, hbn⟩; replace hB := bl_trans (bl_trans hB (by go_grown)) hbn; replace P := P.bel (bl_trans (by go_grown) hbn); replace Pc := P.c4; replace Q := Q.bel (bl_trans (by go_grown) hbn); replace Qc := Q.c3; clear hbn) | (go_at_call 77; refine (DominoOk_i _ _ _ _).mono ?_; rintro e wn ⟨rfl, hbn⟩; replace hB := bl_trans (bl_trans hB (by go_grown)) hbn; replace P := P.bel (bl_trans (by go_grown) hbn); replace Pc := P.c4; replace Q := Q.bel (bl_trans (by go_grown) hbn); replace Qc := Q.c3; clear hbn))
      (refine (ends_any _ _ _ _).mono ?_; rintro e wn ⟨rfl, hbn⟩; replace hB := bl_trans (bl_trans hB (by go_grown)) hbn; replace P := P.bel (bl_trans (by go_grown) hbn); replace Pc := P.c4; replace Q := Q.bel (bl_trans (by go_grown) hbn); replace Qc := Q.c3; (have A := (Blk.new wn 85 [.int .i64 x, .int .i64 y]).alloc (.cells #[.int .i64 (sndX x true), .int .i64 (sndY y true)] 85); have Ac := A.c2; have B := Blk.new2 wn (.cells #[.int .i64 x, .int .i64 y] 85) 85 [.int .i64 (sndX x true), .int .i64 (sndY y true)]; have Bc := B.c2; replace P := (P.alloc (.cells #[.int .i64 x, .int .i64 y] 85)).alloc (.cells #[.int .i64 (sndX x true), .int .i64 (sndY y true)] 85); replace Pc := P.c4; replace Q := (Q.alloc (.cells #[.int .i64 x, .int .i64 y] 85)).alloc (.cells #[.int .i64 (sndX x true), .int .i64 (sndY y true)] 85); replace Qc := Q.c3); clear hbn)
      go_wp2_with fail
      all_goals go_ret
      all_goals exact ⟨ret_int (by simp_all [price]), (by first | (go_grown; done) | exact bl_trans hB (by go_grown))⟩
  · go_enter Try.func57, Try.ntmps57
    go_wp2_with (first | (go_at_call 24; refine (PricesOk_i _ _ _ _ _ ga gd ge).mono ?_; rintro e wn ⟨rfl, hbn⟩; replace hB := bl_trans (bl_trans hB (by go_grown)) hbn; replace P := P.bel (bl_trans (by go_grown) hbn); replace Pc := P.c4; replace Q := Q.bel (bl_trans (by go_grown) hbn); replace Qc := Q.c3; clear hbn) | (go_at_call 77; refine (DominoOk_i _ _ _ _).mono ?_; rintro e wn ⟨rfl, hbn⟩; replace hB := bl_trans (bl_trans hB (by go_grown)) hbn; replace P := P.bel (bl_trans (by go_grown) hbn); replace Pc := P.c4; replace Q := Q.bel (bl_trans (by go_grown) hbn); replace Qc := Q.c3; clear hbn))
    all_goals first | (exfalso; simp_all; done) | go_ret
    all_goals exact ⟨ret_int (by simp_all [price]), (by first | (go_grown; done) | exact bl_trans hB (by go_grown))⟩
end Go.Proofs.Ytdbnhbffdndkgaa

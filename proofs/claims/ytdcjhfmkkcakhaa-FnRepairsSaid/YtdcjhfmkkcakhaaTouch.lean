/-
  Contracts of DoOverlap (reference) and DoTouch (both): what each returns, as a function of its arguments; nothing that was there is written; no statement is proved here; no condition.
-/
import Derived.Test.YtdcjhfmkkcakhaaDomino
namespace Go.Proofs.Ytdcjhfmkkcakhaa
open Go.ChangeShapes Go.WideShapes Go.ChangeAt Go.RowKit Go.Deep
set_option linter.unusedVariables false

def touch (x y : Int) (z : Bool) (a b : Int) (c : Bool) : Bool :=
  domOk x y z && domOk a b c && !ovl x y z a b c && (nbr x y a b || nbr x y (sndX a c) (sndY b c) || nbr (sndX x z) (sndY y z) a b || nbr (sndX x z) (sndY y z) (sndX a c) (sndY b c))
set_option maxHeartbeats 2000000 in
theorem DoTouch_i (x y : Int) (z : Bool) (a b : Int) (c : Bool) (w : World) :
    Calls Try.prog 62 #[.agg #[.int .i64 x, .int .i64 y, .bool z], .agg #[.int .i64 a, .int .i64 b, .bool c]] w fun e w' => e = .returned (.bool (touch x y z a b c)) ∧ Below w.heap.size w w' := by
  (have hB := Below.refl w.heap.size w; have P := (Blk.new w 53 [.int .i64 x, .int .i64 y, .bool z]).alloc (.cells #[.int .i64 a, .int .i64 b, .bool c] 53); have Pc := P.c3; have Q := Blk.new2 w (.cells #[.int .i64 x, .int .i64 y, .bool z] 53) 53 [.int .i64 a, .int .i64 b, .bool c]; have Qc := Q.c3)
  by_cases h : domOk x y z = true ∧ domOk a b c = true ∧ ovl x y z a b c = false
  · obtain ⟨h1, h2, h3⟩ := h
    go_enter Try.func62, Try.ntmps62
    go_wp2_with (first | (go_at_call 143; refine (DominoOk_i _ _ _ _).mono ?_; rintro e wn ⟨rfl, hbn⟩; have hSz := bl_sz (bl_trans hB (by go_grown)) hbn; replace hB := bl_trans (bl_trans hB (by go_grown)) hbn; replace P := P.bel (bl_trans (by go_grown) hbn); replace Pc := P.c3; replace Q := Q.bel (bl_trans (by go_grown) hbn); replace Qc := Q.c3; clear hbn) | (go_at_call 144; refine (DoOverlap_i _ _ _ _ _ _ _).mono ?_; rintro e wn ⟨rfl, hbn⟩; have hSz := bl_sz (bl_trans hB (by go_grown)) hbn; replace hB := bl_trans (bl_trans hB (by go_grown)) hbn; replace P := P.bel (bl_trans (by go_grown) hbn); replace Pc := P.c3; replace Q := Q.bel (bl_trans (by go_grown) hbn); replace Qc := Q.c3; clear hbn))
    (refine (ends_any _ _ _ _).mono ?_; rintro e wn ⟨rfl, hbn⟩; have hSz := bl_sz (bl_trans hB (by go_grown)) hbn; replace hB := bl_trans (bl_trans hB (by go_grown)) hbn; replace P := P.bel (bl_trans (by go_grown) hbn); replace Pc := P.c3; replace Q := Q.bel (bl_trans (by go_grown) hbn); replace Qc := Q.c3; (have A := (Blk.new wn 35 [.int .i64 x, .int .i64 y]).alloc (.cells #[.int .i64 (sndX x z), .int .i64 (sndY y z)] 35); have Ac := A.c2; have B := Blk.new2 wn (.cells #[.int .i64 x, .int .i64 y] 35) 35 [.int .i64 (sndX x z), .int .i64 (sndY y z)]; have Bc := B.c2; replace P := (P.alloc (.cells #[.int .i64 x, .int .i64 y] 35)).alloc (.cells #[.int .i64 (sndX x z), .int .i64 (sndY y z)] 35); replace Pc := P.c3; replace Q := (Q.alloc (.cells #[.int .i64 x, .int .i64 y] 35)).alloc (.cells #[.int .i64 (sndX x z), .int .i64 (sndY y z)] 35); replace Qc := Q.c3); clear hbn)
    go_wp2_with fail
    (refine (ends_any _ _ _ _).mono ?_; rintro e wn ⟨rfl, hbn⟩; have hSz := bl_sz (bl_trans hB (by go_grown)) hbn; replace hB := bl_trans (bl_trans hB (by go_grown)) hbn; replace A := A.bel (bl_trans (by go_grown) hbn); replace Ac := A.c2; replace B := B.bel (bl_trans (by go_grown) hbn); replace Bc := B.c2; (have C := (Blk.new wn 35 [.int .i64 a, .int .i64 b]).alloc (.cells #[.int .i64 (sndX a c), .int .i64 (sndY b c)] 35); have Cc := C.c2; have D := Blk.new2 wn (.cells #[.int .i64 a, .int .i64 b] 35) 35 [.int .i64 (sndX a c), .int .i64 (sndY b c)]; have Dc := D.c2; replace A := (A.alloc (.cells #[.int .i64 a, .int .i64 b] 35)).alloc (.cells #[.int .i64 (sndX a c), .int .i64 (sndY b c)] 35); replace Ac := A.c2; replace B := (B.alloc (.cells #[.int .i64 a, .int .i64 b] 35)).alloc (.cells #[.int .i64 (sndX a c), .int .i64 (sndY b c)] 35); replace Bc := B.c2); clear hbn)
    go_wp2_with (go_at_call 146; refine (AreNeighbors_i _ _ _ _ _).mono ?_; rintro e wn ⟨rfl, hbn⟩; have hSz := bl_sz (bl_trans hB (by go_grown)) hbn; replace hB := bl_trans (bl_trans hB (by go_grown)) hbn; replace A := A.bel (bl_trans (by go_grown) hbn); replace Ac := A.c2; replace B := B.bel (bl_trans (by go_grown) hbn); replace Bc := B.c2; replace C := C.bel (bl_trans (by go_grown) hbn); replace Cc := C.c2; replace D := D.bel (bl_trans (by go_grown) hbn); replace Dc := D.c2; clear hbn)
    all_goals go_ret
    all_goals exact ⟨ret_bool (by simp_all [touch]), (by first | (go_grown; done) | exact bl_trans hB (by go_grown))⟩
  · go_enter Try.func62, Try.ntmps62
    go_wp2_with (first | (go_at_call 143; refine (DominoOk_i _ _ _ _).mono ?_; rintro e wn ⟨rfl, hbn⟩; have hSz := bl_sz (bl_trans hB (by go_grown)) hbn; replace hB := bl_trans (bl_trans hB (by go_grown)) hbn; replace P := P.bel (bl_trans (by go_grown) hbn); replace Pc := P.c3; replace Q := Q.bel (bl_trans (by go_grown) hbn); replace Qc := Q.c3; clear hbn) | (go_at_call 144; refine (DoOverlap_i _ _ _ _ _ _ _).mono ?_; rintro e wn ⟨rfl, hbn⟩; have hSz := bl_sz (bl_trans hB (by go_grown)) hbn; replace hB := bl_trans (bl_trans hB (by go_grown)) hbn; replace P := P.bel (bl_trans (by go_grown) hbn); replace Pc := P.c3; replace Q := Q.bel (bl_trans (by go_grown) hbn); replace Qc := Q.c3; clear hbn))
    all_goals first | (exfalso; simp_all; done) | go_ret
    all_goals exact ⟨ret_bool (by simp_all [touch]), (by first | (go_grown; done) | exact bl_trans hB (by go_grown))⟩
end Go.Proofs.Ytdcjhfmkkcakhaa

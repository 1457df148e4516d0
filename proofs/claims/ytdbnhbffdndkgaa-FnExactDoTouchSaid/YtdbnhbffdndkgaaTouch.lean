/-
  Contracts of DoOverlap (reference) and DoTouch (both): what each returns, as a function of its arguments; nothing that was there is written; no statement is proved here; no condition.
-/
import Derived.Test.YtdbnhbffdndkgaaDomino
namespace Go.Proofs.Ytdbnhbffdndkgaa
open Go.ChangeShapes Go.WideShapes Go.ChangeAt Go.RowKit Go.Deep

def touch (x y : Int) (z : Bool) (a b : Int) (c : Bool) : Bool :=
  domOk x y z && domOk a b c && !ovl x y z a b c && (nbr x y a b || nbr x y (sndX a c) (sndY b c) || nbr (sndX x z) (sndY y z) a b || nbr (sndX x z) (sndY y z) (sndX a c) (sndY b c))
set_option maxRecDepth 100000 in
set_option maxHeartbeats 2000000 in
theorem DoOverlap_s (x y : Int) (z : Bool) (a b : Int) (c : Bool) (w : World) :
    Calls Try.prog 74 #[.agg #[.int .i64 x, .int .i64 y, .bool z], .agg #[.int .i64 a, .int .i64 b, .bool c]] w fun e w' => e = .returned (.bool (ovl x y z a b c)) ∧ Below w.heap.size w w' := by
  (have hB := Below.refl w.heap.size w; have P := (Blk.new w 74 [.int .i64 x, .int .i64 y, .bool z]).alloc (.cells #[.int .i64 a, .int .i64 b, .bool c] 74); have Pc := P.c3; have Q := Blk.new2 w (.cells #[.int .i64 x, .int .i64 y, .bool z] 74) 74 [.int .i64 a, .int .i64 b, .bool c]; have Qc := Q.c3)
  cases h1 : domOk x y z
  · go_enter Try.func74, Try.ntmps74
    go_wp2_with (go_at_call 73; refine (DominoOk_s _ _ _ _).mono ?_; rintro e wn ⟨rfl, hbn⟩; replace hB := bl_trans (bl_trans hB (by go_grown)) hbn; replace P := P.bel (bl_trans (by go_grown) hbn); replace Pc := P.c3; replace Q := Q.bel (bl_trans (by go_grown) hbn); replace Qc := Q.c3; clear hbn)
    go_ret
    exact ⟨ret_bool (by simp [ovl, h1]), (by first | (go_grown; done) | exact bl_trans hB (by go_grown))⟩
  · cases h2 : domOk a b c
    · go_enter Try.func74, Try.ntmps74
      go_wp2_with (go_at_call 73; refine (DominoOk_s _ _ _ _).mono ?_; rintro e wn ⟨rfl, hbn⟩; replace hB := bl_trans (bl_trans hB (by go_grown)) hbn; replace P := P.bel (bl_trans (by go_grown) hbn); replace Pc := P.c3; replace Q := Q.bel (bl_trans (by go_grown) hbn); replace Qc := Q.c3; clear hbn)
      go_ret
      exact ⟨ret_bool (by simp [ovl, h2]), (by first | (go_grown; done) | exact bl_trans hB (by go_grown))⟩
    · have he := eq_cell
      go_enter Try.func74, Try.ntmps74
      go_wp2_with (go_at_call 73; refine (DominoOk_s _ _ _ _).mono ?_; rintro e wn ⟨rfl, hbn⟩; replace hB := bl_trans (bl_trans hB (by go_grown)) hbn; replace P := P.bel (bl_trans (by go_grown) hbn); replace Pc := P.c3; replace Q := Q.bel (bl_trans (by go_grown) hbn); replace Qc := Q.c3; clear hbn)
      (refine (CellsUnder_yes _ _ _ _ h1).mono ?_; rintro e wn ⟨rfl, hbn⟩; replace hB := bl_trans (bl_trans hB (by go_grown)) hbn; replace P := P.bel (bl_trans (by go_grown) hbn); replace Pc := P.c3; replace Q := Q.bel (bl_trans (by go_grown) hbn); replace Qc := Q.c3; (have A := (Blk.new wn 85 [.int .i64 x, .int .i64 y]).alloc (.cells #[.int .i64 (sndX x z), .int .i64 (sndY y z)] 85); have Ac := A.c2; have B := Blk.new2 wn (.cells #[.int .i64 x, .int .i64 y] 85) 85 [.int .i64 (sndX x z), .int .i64 (sndY y z)]; have Bc := B.c2; replace P := (P.alloc (.cells #[.int .i64 x, .int .i64 y] 85)).alloc (.cells #[.int .i64 (sndX x z), .int .i64 (sndY y z)] 85); replace Pc := P.c3; replace Q := (Q.alloc (.cells #[.int .i64 x, .int .i64 y] 85)).alloc (.cells #[.int .i64 (sndX x z), .int .i64 (sndY y z)] 85); replace Qc := Q.c3); clear hbn)
      go_wp2_with fail
      (refine (CellsUnder_yes _ _ _ _ h2).mono ?_; rintro e wn ⟨rfl, hbn⟩; replace hB := bl_trans (bl_trans hB (by go_grown)) hbn; replace A := A.bel (bl_trans (by go_grown) hbn); replace Ac := A.c2; replace B := B.bel (bl_trans (by go_grown) hbn); replace Bc := B.c2; (have C := (Blk.new wn 85 [.int .i64 a, .int .i64 b]).alloc (.cells #[.int .i64 (sndX a c), .int .i64 (sndY b c)] 85); have Cc := C.c2; have D := Blk.new2 wn (.cells #[.int .i64 a, .int .i64 b] 85) 85 [.int .i64 (sndX a c), .int .i64 (sndY b c)]; have Dc := D.c2; replace A := (A.alloc (.cells #[.int .i64 a, .int .i64 b] 85)).alloc (.cells #[.int .i64 (sndX a c), .int .i64 (sndY b c)] 85); replace Ac := A.c2; replace B := (B.alloc (.cells #[.int .i64 a, .int .i64 b] 85)).alloc (.cells #[.int .i64 (sndX a c), .int .i64 (sndY b c)] 85); replace Bc := B.c2); clear hbn)
      go_wp2_with fail
      all_goals go_ret
      all_goals exact ⟨ret_bool (by simp_all [ovl] <;> rfl), (by first | (go_grown; done) | exact bl_trans hB (by go_grown))⟩
set_option maxHeartbeats 2000000 in
theorem DoTouch_i (x y : Int) (z : Bool) (a b : Int) (c : Bool) (w : World) :
    Calls Try.prog 55 #[.agg #[.int .i64 x, .int .i64 y, .bool z], .agg #[.int .i64 a, .int .i64 b, .bool c]] w fun e w' => e = .returned (.bool (touch x y z a b c)) ∧ Below w.heap.size w w' := by
  (have hB := Below.refl w.heap.size w; have P := (Blk.new w 74 [.int .i64 x, .int .i64 y, .bool z]).alloc (.cells #[.int .i64 a, .int .i64 b, .bool c] 74); have Pc := P.c3; have Q := Blk.new2 w (.cells #[.int .i64 x, .int .i64 y, .bool z] 74) 74 [.int .i64 a, .int .i64 b, .bool c]; have Qc := Q.c3)
  by_cases h : domOk x y z = true ∧ domOk a b c = true ∧ ovl x y z a b c = false
  · obtain ⟨h1, h2, h3⟩ := h
    go_enter Try.func55, Try.ntmps55
    go_wp2_with (first | (go_at_call 77; refine (DominoOk_i _ _ _ _).mono ?_; rintro e wn ⟨rfl, hbn⟩; replace hB := bl_trans (bl_trans hB (by go_grown)) hbn; replace P := P.bel (bl_trans (by go_grown) hbn); replace Pc := P.c3; replace Q := Q.bel (bl_trans (by go_grown) hbn); replace Qc := Q.c3; clear hbn) | (go_at_call 78; refine (DoOverlap_i _ _ _ _ _ _ _).mono ?_; rintro e wn ⟨rfl, hbn⟩; replace hB := bl_trans (bl_trans hB (by go_grown)) hbn; replace P := P.bel (bl_trans (by go_grown) hbn); replace Pc := P.c3; replace Q := Q.bel (bl_trans (by go_grown) hbn); replace Qc := Q.c3; clear hbn))
    (refine (ends_any _ _ _ _).mono ?_; rintro e wn ⟨rfl, hbn⟩; replace hB := bl_trans (bl_trans hB (by go_grown)) hbn; replace P := P.bel (bl_trans (by go_grown) hbn); replace Pc := P.c3; replace Q := Q.bel (bl_trans (by go_grown) hbn); replace Qc := Q.c3; (have A := (Blk.new wn 85 [.int .i64 x, .int .i64 y]).alloc (.cells #[.int .i64 (sndX x z), .int .i64 (sndY y z)] 85); have Ac := A.c2; have B := Blk.new2 wn (.cells #[.int .i64 x, .int .i64 y] 85) 85 [.int .i64 (sndX x z), .int .i64 (sndY y z)]; have Bc := B.c2; replace P := (P.alloc (.cells #[.int .i64 x, .int .i64 y] 85)).alloc (.cells #[.int .i64 (sndX x z), .int .i64 (sndY y z)] 85); replace Pc := P.c3; replace Q := (Q.alloc (.cells #[.int .i64 x, .int .i64 y] 85)).alloc (.cells #[.int .i64 (sndX x z), .int .i64 (sndY y z)] 85); replace Qc := Q.c3); clear hbn)
    go_wp2_with fail
    (refine (ends_any _ _ _ _).mono ?_; rintro e wn ⟨rfl, hbn⟩; replace hB := bl_trans (bl_trans hB (by go_grown)) hbn; replace A := A.bel (bl_trans (by go_grown) hbn); replace Ac := A.c2; replace B := B.bel (bl_trans (by go_grown) hbn); replace Bc := B.c2; (have C := (Blk.new wn 85 [.int .i64 a, .int .i64 b]).alloc (.cells #[.int .i64 (sndX a c), .int .i64 (sndY b c)] 85); have Cc := C.c2; have D := Blk.new2 wn (.cells #[.int .i64 a, .int .i64 b] 85) 85 [.int .i64 (sndX a c), .int .i64 (sndY b c)]; have Dc := D.c2; replace A := (A.alloc (.cells #[.int .i64 a, .int .i64 b] 85)).alloc (.cells #[.int .i64 (sndX a c), .int .i64 (sndY b c)] 85); replace Ac := A.c2; replace B := (B.alloc (.cells #[.int .i64 a, .int .i64 b] 85)).alloc (.cells #[.int .i64 (sndX a c), .int .i64 (sndY b c)] 85); replace Bc := B.c2); clear hbn)
    go_wp2_with (go_at_call 80; refine (AreNeighbors_i _ _ _ _ _).mono ?_; rintro e wn ⟨rfl, hbn⟩; replace hB := bl_trans (bl_trans hB (by go_grown)) hbn; replace A := A.bel (bl_trans (by go_grown) hbn); replace Ac := A.c2; replace B := B.bel (bl_trans (by go_grown) hbn); replace Bc := B.c2; replace C := C.bel (bl_trans (by go_grown) hbn); replace Cc := C.c2; replace D := D.bel (bl_trans (by go_grown) hbn); replace Dc := D.c2; clear hbn)
    all_goals go_ret
    all_goals exact ⟨ret_bool (by simp_all [touch]), (by first | (go_grown; done) | exact bl_trans hB (by go_grown))⟩
  · go_enter Try.func55, Try.ntmps55
    go_wp2_with (first | (go_at_call 77; refine (DominoOk_i _ _ _ _).mono ?_; rintro e wn ⟨rfl, hbn⟩; replace hB := bl_trans (bl_trans hB (by go_grown)) hbn; replace P := P.bel (bl_trans (by go_grown) hbn); replace Pc := P.c3; replace Q := Q.bel (bl_trans (by go_grown) hbn); replace Qc := Q.c3; clear hbn) | (go_at_call 78; refine (DoOverlap_i _ _ _ _ _ _ _).mono ?_; rintro e wn ⟨rfl, hbn⟩; replace hB := bl_trans (bl_trans hB (by go_grown)) hbn; replace P := P.bel (bl_trans (by go_grown) hbn); replace Pc := P.c3; replace Q := Q.bel (bl_trans (by go_grown) hbn); replace Qc := Q.c3; clear hbn))
    all_goals first | (exfalso; simp_all; done) | go_ret
    all_goals exact ⟨ret_bool (by simp_all [touch]), (by first | (go_grown; done) | exact bl_trans hB (by go_grown))⟩
set_option maxHeartbeats 2000000 in
theorem DoTouch_s (x y : Int) (z : Bool) (a b : Int) (c : Bool) (w : World) :
    Calls Try.prog 53 #[.agg #[.int .i64 x, .int .i64 y, .bool z], .agg #[.int .i64 a, .int .i64 b, .bool c]] w fun e w' => e = .returned (.bool (touch x y z a b c)) ∧ Below w.heap.size w w' := by
  (have hB := Below.refl w.heap.size w; have P := (Blk.new w 74 [.int .i64 x, .int .i64 y, .bool z]).alloc (.cells #[.int .i64 a, .int .i64 b, .bool c] 74); have Pc := P.c3; have Q := Blk.new2 w (.cells #[.int .i64 x, .int .i64 y, .bool z] 74) 74 [.int .i64 a, .int .i64 b, .bool c]; have Qc := Q.c3)
  by_cases h : domOk x y z = true ∧ domOk a b c = true ∧ ovl x y z a b c = false
  · obtain ⟨h1, h2, h3⟩ := h
    go_enter Try.func53, Try.ntmps53
    go_wp2_with (first | (go_at_call 73; refine (DominoOk_s _ _ _ _).mono ?_; rintro e wn ⟨rfl, hbn⟩; replace hB := bl_trans (bl_trans hB (by go_grown)) hbn; replace P := P.bel (bl_trans (by go_grown) hbn); replace Pc := P.c3; replace Q := Q.bel (bl_trans (by go_grown) hbn); replace Qc := Q.c3; clear hbn) | (go_at_call 74; refine (DoOverlap_s _ _ _ _ _ _ _).mono ?_; rintro e wn ⟨rfl, hbn⟩; replace hB := bl_trans (bl_trans hB (by go_grown)) hbn; replace P := P.bel (bl_trans (by go_grown) hbn); replace Pc := P.c3; replace Q := Q.bel (bl_trans (by go_grown) hbn); replace Qc := Q.c3; clear hbn))
    (refine (CellsUnder_yes _ _ _ _ h1).mono ?_; rintro e wn ⟨rfl, hbn⟩; replace hB := bl_trans (bl_trans hB (by go_grown)) hbn; replace P := P.bel (bl_trans (by go_grown) hbn); replace Pc := P.c3; replace Q := Q.bel (bl_trans (by go_grown) hbn); replace Qc := Q.c3; (have A := (Blk.new wn 85 [.int .i64 x, .int .i64 y]).alloc (.cells #[.int .i64 (sndX x z), .int .i64 (sndY y z)] 85); have Ac := A.c2; have B := Blk.new2 wn (.cells #[.int .i64 x, .int .i64 y] 85) 85 [.int .i64 (sndX x z), .int .i64 (sndY y z)]; have Bc := B.c2; replace P := (P.alloc (.cells #[.int .i64 x, .int .i64 y] 85)).alloc (.cells #[.int .i64 (sndX x z), .int .i64 (sndY y z)] 85); replace Pc := P.c3; replace Q := (Q.alloc (.cells #[.int .i64 x, .int .i64 y] 85)).alloc (.cells #[.int .i64 (sndX x z), .int .i64 (sndY y z)] 85); replace Qc := Q.c3); clear hbn)
    go_wp2_with fail
    (refine (CellsUnder_yes _ _ _ _ h2).mono ?_; rintro e wn ⟨rfl, hbn⟩; replace hB := bl_trans (bl_trans hB (by go_grown)) hbn; replace A := A.bel (bl_trans (by go_grown) hbn); replace Ac := A.c2; replace B := B.bel (bl_trans (by go_grown) hbn); replace Bc := B.c2; (have C := (Blk.new wn 85 [.int .i64 a, .int .i64 b]).alloc (.cells #[.int .i64 (sndX a c), .int .i64 (sndY b c)] 85); have Cc := C.c2; have D := Blk.new2 wn (.cells #[.int .i64 a, .int .i64 b] 85) 85 [.int .i64 (sndX a c), .int .i64 (sndY b c)]; have Dc := D.c2; replace A := (A.alloc (.cells #[.int .i64 a, .int .i64 b] 85)).alloc (.cells #[.int .i64 (sndX a c), .int .i64 (sndY b c)] 85); replace Ac := A.c2; replace B := (B.alloc (.cells #[.int .i64 a, .int .i64 b] 85)).alloc (.cells #[.int .i64 (sndX a c), .int .i64 (sndY b c)] 85); replace Bc := B.c2); clear hbn)
    go_wp2_with (go_at_call 76; refine (AreNeighbors_s _ _ _ _ _).mono ?_; rintro e wn ⟨rfl, hbn⟩; replace hB := bl_trans (bl_trans hB (by go_grown)) hbn; replace A := A.bel (bl_trans (by go_grown) hbn); replace Ac := A.c2; replace B := B.bel (bl_trans (by go_grown) hbn); replace Bc := B.c2; replace C := C.bel (bl_trans (by go_grown) hbn); replace Cc := C.c2; replace D := D.bel (bl_trans (by go_grown) hbn); replace Dc := D.c2; clear hbn)
    all_goals go_ret
    all_goals exact ⟨ret_bool (by simp_all [touch]), (by first | (go_grown; done) | exact bl_trans hB (by go_grown))⟩
  · go_enter Try.func53, Try.ntmps53
    go_wp2_with (first | (go_at_call 73; refine (DominoOk_s _ _ _ _).mono ?_; rintro e wn ⟨rfl, hbn⟩; replace hB := bl_trans (bl_trans hB (by go_grown)) hbn; replace P := P.bel (bl_trans (by go_grown) hbn); replace Pc := P.c3; replace Q := Q.bel (bl_trans (by go_grown) hbn); replace Qc := Q.c3; clear hbn) | (go_at_call 74; refine (DoOverlap_s _ _ _ _ _ _ _).mono ?_; rintro e wn ⟨rfl, hbn⟩; replace hB := bl_trans (bl_trans hB (by go_grown)) hbn; replace P := P.bel (bl_trans (by go_grown) hbn); replace Pc := P.c3; replace Q := Q.bel (bl_trans (by go_grown) hbn); replace Qc := Q.c3; clear hbn))
    all_goals first | (exfalso; simp_all; done) | go_ret
    all_goals exact ⟨ret_bool (by simp_all [touch]), (by first | (go_grown; done) | exact bl_trans hB (by go_grown))⟩
end Go.Proofs.Ytdbnhbffdndkgaa

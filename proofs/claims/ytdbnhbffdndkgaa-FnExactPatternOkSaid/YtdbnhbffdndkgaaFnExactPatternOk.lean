/-
  The walk of the law FnExactPatternOk: it returns true for every pattern; no condition.
-/
import Derived.Test.YtdbnhbffdndkgaaPattern
namespace Go.Proofs.Ytdbnhbffdndkgaa
open Go.ChangeShapes Go.WideShapes Go.ChangeAt Go.RowKit Go.Deep

set_option maxHeartbeats 2000000 in
theorem walk_FnExactPatternOk (x y z : Int) (A : Option Addr) (c : Nat) (l : List Int) (w : World) (_ : I64 x) (_ : I64 y) (_ : I64 z) (hr : RdI w A l) (hl : l.length ≤ maxLen) :
    Calls Try.prog 10 #[.agg #[.int .i64 x, .int .i64 y, .int .i64 z, .slice A l.length c]] w fun e w' => e = .returned (.bool true) ∧ Below w.heap.size w w' := by
  (have hB := Below.refl w.heap.size w; have P := Blk.new w 42 [.int .i64 x, .int .i64 y, .int .i64 z, .slice A l.length c]; have Pc := P.c4)
  have z1 := szSub_le 1048576 l.length (by omega) (by omega)
  by_cases h1 : szSub 1048576 l.length < 0
  · go_enter Try.func10, Try.ntmps10
    go_wp2_with (go_at_call 31; refine (szPattern_any x y z A c l.length _ _ (by omega) (by omega) (by assumption)).mono ?_; rintro e wn ⟨rfl, hbn⟩; replace hB := bl_trans (bl_trans hB (by go_grown)) hbn; replace P := P.bel (bl_trans (by go_grown) hbn); replace Pc := P.c4; clear hbn)
    go_ret
    exact ⟨rfl, (by first | (go_grown; done) | exact bl_trans hB (by go_grown))⟩
  · have f1 := szSub_fits (left := 1048576) (n := l.length) (by omega)
    have b1 : l.length ≤ 1048576 := by omega
    have hr' := Lib.hid hr
    clear hr f1
    go_enter Try.func10, Try.ntmps10
    go_wp2_with (go_at_call 31; refine (szPattern_any x y z A c l.length _ _ (by omega) (by omega) (by assumption)).mono ?_; rintro e wn ⟨rfl, hbn⟩; replace hB := bl_trans (bl_trans hB (by go_grown)) hbn; replace P := P.bel (bl_trans (by go_grown) hbn); replace Pc := P.c4; clear hbn)
    (refine (toPattern_any x y z A c l _ b1 (hr'.out.below hB)).mono ?_; rintro e wn ⟨A1, c1, rfl, R1, hbn⟩; replace hB := bl_trans (bl_trans hB (by go_grown)) hbn; replace P := P.bel (bl_trans (by go_grown) hbn); replace Pc := P.c4; replace R1 := Lib.hid R1; clear hbn)
    go_wp2_with fail
    (refine (PatternOk_s _ _ _ A1 c1 l _ b1 R1.out).mono ?_; rintro e wn ⟨rfl, hbn⟩; replace hB := bl_trans (bl_trans hB (by go_grown)) hbn; replace P := P.bel (bl_trans (by go_grown) hbn); replace Pc := P.c4; clear hbn)
    go_wp2_with fail
    (refine (toPattern_any x y z A c l _ b1 (hr'.out.below hB)).mono ?_; rintro e wx ⟨A2, c2, rfl, R2, hbn⟩; replace hB := bl_trans (bl_trans hB (by go_grown)) hbn; replace P := P.bel (bl_trans (by go_grown) hbn); replace Pc := P.c4; have X := Blk.new wx 50 [.int .i64 x, .int .i64 y, .int .i64 z, .slice A2 l.length c2]; have Xc := X.c4; replace P := P.alloc (.cells #[.int .i64 x, .int .i64 y, .int .i64 z, .slice A2 l.length c2] 50); replace Pc := P.c4; replace R2 := Lib.hid R2; clear hbn)
    go_wp2_with fail
    (refine (PatternOk_i _ _ _ A2 c2 l _ b1 (R2.out.below (by go_grown))).mono ?_; rintro e wn ⟨rfl, hbn⟩; replace hB := bl_trans (bl_trans hB (by go_grown)) hbn; replace P := P.bel (bl_trans (by go_grown) hbn); replace Pc := P.c4; replace X := X.bel (bl_trans (by go_grown) hbn); replace Xc := X.c4; replace R2 := Lib.hid (R2.out.below (bl_trans (by go_grown) hbn)); clear hbn)
    go_wp2_with fail
    go_region_held3 (fun w' => (w'.cell? ⟨w.heap.size, 0, none⟩ = some (.int .i64 x) ∧ w'.cell? ⟨w.heap.size, 1, none⟩ = some (.int .i64 y) ∧ w'.cell? ⟨w.heap.size, 2, none⟩ = some (.int .i64 z) ∧ w'.cell? ⟨w.heap.size, 3, none⟩ = some (.slice A l.length c)) ∧
        (w'.cell? ⟨wx.heap.size, 0, none⟩ = some (.int .i64 x) ∧ w'.cell? ⟨wx.heap.size, 1, none⟩ = some (.int .i64 y) ∧ w'.cell? ⟨wx.heap.size, 2, none⟩ = some (.int .i64 z) ∧ w'.cell? ⟨wx.heap.size, 3, none⟩ = some (.slice A2 l.length c2))) (go_keep)
      (first | (go_at_call 35; refine (toPattern_any x y z A c l _ b1 (hr'.out.below (bl_trans hB (by go_grown)))).mono ?_; rintro e wn ⟨A3, c3, rfl, R3, hbn⟩; replace hB := bl_trans (bl_trans hB (by go_grown)) hbn; replace P := P.bel (bl_trans (by go_grown) hbn); replace Pc := P.c4; replace X := X.bel (bl_trans (by go_grown) hbn); replace Xc := X.c4; replace R3 := Lib.hid R3; replace R2 := Lib.hid (R2.out.below (bl_trans (by go_grown) hbn)); clear hbn) | (go_at_call 39; refine (eqPattern_any x y z x y z A2 A3 c2 c3 l l _ b1 R2.out R3.out).mono ?_; rintro e wn ⟨rfl, hbn⟩; replace hB := bl_trans (bl_trans hB (by go_grown)) hbn; replace P := P.bel (bl_trans (by go_grown) hbn); replace Pc := P.c4; replace X := X.bel (bl_trans (by go_grown) hbn); replace Xc := X.c4; clear hbn))
    go_wp2
    go_ret
    exact ⟨rfl, (by first | (go_grown; done) | exact bl_trans hB (by go_grown))⟩
end Go.Proofs.Ytdbnhbffdndkgaa

/-
  The walk of the law FnExactWeightAt: it returns true for every pattern and cell; no condition.
-/
import Derived.Test.YthclolooidnniaaWeight
import Derived.Test.YthclolooidnniaaConv
namespace Go.Proofs.Ythclolooidnniaa
open Go.ChangeShapes Go.WideShapes Go.ChangeAt Go.RowKit Go.Deep

set_option maxRecDepth 100000 in
set_option maxHeartbeats 4000000 in
theorem walk_FnExactWeightAt (x y z : Int) (A : Option Addr) (c : Nat) (l : List Int) (u v : Int) (w : World) (_ : I64 x) (_ : I64 y) (_ : I64 z) (hr : RdI w A l) (hl : l.length ≤ maxLen) (_ : I64 u) (_ : I64 v) :
    Calls Try.prog 5 #[.agg #[.int .i64 x, .int .i64 y, .int .i64 z, .slice A l.length c], .agg #[.int .i64 u, .int .i64 v]] w fun e w' => e = .returned (.bool true) ∧ Below w.heap.size w w' := by
  (have hB := Below.refl w.heap.size w; have P := (Blk.new w 24 [.int .i64 x, .int .i64 y, .int .i64 z, .slice A l.length c]).alloc (.cells #[.int .i64 u, .int .i64 v] 59); have Pc := P.c4; have Q := Blk.new2 w (.cells #[.int .i64 x, .int .i64 y, .int .i64 z, .slice A l.length c] 24) 59 [.int .i64 u, .int .i64 v]; have Qc := Q.c2)
  have z1 := szSub_le 1048576 l.length (by omega) (by omega)
  by_cases h1 : szSub 1048576 l.length < 0
  · go_enter Try.func5, Try.ntmps5
    go_wp2_with (go_at_call 15; refine (szPattern_any x y z A c l.length _ _ (by omega) (by omega) (by assumption)).mono ?_; rintro e wn ⟨rfl, hbn⟩; replace hB := bl_trans (bl_trans hB (by go_grown)) hbn; replace P := P.bel (bl_trans (by go_grown) hbn); replace Pc := P.c4; replace Q := Q.bel (bl_trans (by go_grown) hbn); replace Qc := Q.c2; clear hbn)
    go_ret
    exact ⟨rfl, (by first | (go_grown; done) | exact bl_trans hB (by go_grown))⟩
  · have f1 := szSub_fits (left := 1048576) (n := l.length) (by omega)
    have b1 : l.length ≤ 1048576 := by omega
    have hr' := Lib.hid hr
    clear hr f1
    go_enter Try.func5, Try.ntmps5
    go_wp2_with (go_at_call 15; refine (szPattern_any x y z A c l.length _ _ (by omega) (by omega) (by assumption)).mono ?_; rintro e wn ⟨rfl, hbn⟩; replace hB := bl_trans (bl_trans hB (by go_grown)) hbn; replace P := P.bel (bl_trans (by go_grown) hbn); replace Pc := P.c4; replace Q := Q.bel (bl_trans (by go_grown) hbn); replace Qc := Q.c2; clear hbn)
    go_region_held3 (fun w' => (w'.cell? ⟨w.heap.size, 0, none⟩ = some (.int .i64 x) ∧ w'.cell? ⟨w.heap.size, 1, none⟩ = some (.int .i64 y) ∧ w'.cell? ⟨w.heap.size, 2, none⟩ = some (.int .i64 z) ∧ w'.cell? ⟨w.heap.size, 3, none⟩ = some (.slice A l.length c)) ∧
        (w'.cell? ⟨w.heap.size + 1, 0, none⟩ = some (.int .i64 u) ∧ w'.cell? ⟨w.heap.size + 1, 1, none⟩ = some (.int .i64 v))) (go_keep)
      (first | (go_at_call 19; refine (toPattern_any x y z A c l _ b1 (hr'.out.below (bl_trans hB (by go_grown)))).mono ?_; rintro e wn ⟨A1, c1, rfl, R1, hbn⟩; replace hB := bl_trans (bl_trans hB (by go_grown)) hbn; replace P := P.bel (bl_trans (by go_grown) hbn); replace Pc := P.c4; replace Q := Q.bel (bl_trans (by go_grown) hbn); replace Qc := Q.c2; replace R1 := Lib.hid R1; clear hbn) | (go_at_call 41; refine (toCell_any u v _).mono ?_; rintro e wn ⟨rfl, hbn⟩; replace hB := bl_trans (bl_trans hB (by go_grown)) hbn; replace P := P.bel (bl_trans (by go_grown) hbn); replace Pc := P.c4; replace Q := Q.bel (bl_trans (by go_grown) hbn); replace Qc := Q.c2; try replace R1 := Lib.hid (R1.out.below (bl_trans (by go_grown) hbn)); clear hbn) | (go_at_call 40; refine (WeightAt_s _ _ _ _ _ l _ _ _ b1 (R1.out.below (by go_grown))).mono ?_; rintro e wn ⟨rfl, hbn⟩; replace hB := bl_trans (bl_trans hB (by go_grown)) hbn; replace P := P.bel (bl_trans (by go_grown) hbn); replace Pc := P.c4; replace Q := Q.bel (bl_trans (by go_grown) hbn); replace Qc := Q.c2; clear hbn))
    go_wp2_with fail
    clear R1
    (refine (toPattern_any x y z A c l _ b1 (hr'.out.below (bl_trans hB (by go_grown)))).mono ?_; rintro e wx ⟨A2, c2, rfl, R2, hbn⟩; replace hB := bl_trans (bl_trans hB (by go_grown)) hbn; replace P := P.bel (bl_trans (by go_grown) hbn); replace Pc := P.c4; replace Q := Q.bel (bl_trans (by go_grown) hbn); replace Qc := Q.c2; have X := Blk.new wx 32 [.int .i64 x, .int .i64 y, .int .i64 z, .slice A2 l.length c2]; have Xc := X.c4; replace P := P.alloc (.cells #[.int .i64 x, .int .i64 y, .int .i64 z, .slice A2 l.length c2] 32); replace Pc := P.c4; replace Q := Q.alloc (.cells #[.int .i64 x, .int .i64 y, .int .i64 z, .slice A2 l.length c2] 32); replace Qc := Q.c2; replace R2 := Lib.hid R2; clear hbn)
    go_wp2_with fail
    go_region_held3 (fun w' => (w'.cell? ⟨w.heap.size, 0, none⟩ = some (.int .i64 x) ∧ w'.cell? ⟨w.heap.size, 1, none⟩ = some (.int .i64 y) ∧ w'.cell? ⟨w.heap.size, 2, none⟩ = some (.int .i64 z) ∧ w'.cell? ⟨w.heap.size, 3, none⟩ = some (.slice A l.length c)) ∧
        (w'.cell? ⟨w.heap.size + 1, 0, none⟩ = some (.int .i64 u) ∧ w'.cell? ⟨w.heap.size + 1, 1, none⟩ = some (.int .i64 v)) ∧ (w'.cell? ⟨wx.heap.size, 0, none⟩ = some (.int .i64 x) ∧ w'.cell? ⟨wx.heap.size, 1, none⟩ = some (.int .i64 y) ∧ w'.cell? ⟨wx.heap.size, 2, none⟩ = some (.int .i64 z) ∧ w'.cell? ⟨wx.heap.size, 3, none⟩ = some (.slice A2 l.length c2))) (go_keep)
      (first | (go_at_call 41; refine (toCell_any u v _).mono ?_; rintro e wn ⟨rfl, hbn⟩; replace hB := bl_trans (bl_trans hB (by go_grown)) hbn; replace P := P.bel (bl_trans (by go_grown) hbn); replace Pc := P.c4; replace Q := Q.bel (bl_trans (by go_grown) hbn); replace Qc := Q.c2; replace X := X.bel (bl_trans (by go_grown) hbn); replace Xc := X.c4; replace R2 := Lib.hid (R2.out.below (bl_trans (by go_grown) hbn)); clear hbn) | (go_at_call 37; refine (WeightAt_i _ _ _ _ _ l _ _ _ b1 (R2.out.below (by go_grown))).mono ?_; rintro e wn ⟨rfl, hbn⟩; replace hB := bl_trans (bl_trans hB (by go_grown)) hbn; replace P := P.bel (bl_trans (by go_grown) hbn); replace Pc := P.c4; replace Q := Q.bel (bl_trans (by go_grown) hbn); replace Qc := Q.c2; replace X := X.bel (bl_trans (by go_grown) hbn); replace Xc := X.c4; replace R2 := Lib.hid (R2.out.below (bl_trans (by go_grown) hbn)); clear hbn))
    go_wp2_with fail
    go_region_held3 (fun w' => (w'.cell? ⟨w.heap.size, 0, none⟩ = some (.int .i64 x) ∧ w'.cell? ⟨w.heap.size, 1, none⟩ = some (.int .i64 y) ∧ w'.cell? ⟨w.heap.size, 2, none⟩ = some (.int .i64 z) ∧ w'.cell? ⟨w.heap.size, 3, none⟩ = some (.slice A l.length c)) ∧
        (w'.cell? ⟨w.heap.size + 1, 0, none⟩ = some (.int .i64 u) ∧ w'.cell? ⟨w.heap.size + 1, 1, none⟩ = some (.int .i64 v)) ∧ (w'.cell? ⟨wx.heap.size, 0, none⟩ = some (.int .i64 x) ∧ w'.cell? ⟨wx.heap.size, 1, none⟩ = some (.int .i64 y) ∧ w'.cell? ⟨wx.heap.size, 2, none⟩ = some (.int .i64 z) ∧ w'.cell? ⟨wx.heap.size, 3, none⟩ = some (.slice A2 l.length c2))) (go_keep)
      (first | (go_at_call 19; refine (toPattern_any x y z A c l _ b1 (hr'.out.below (bl_trans hB (by go_grown)))).mono ?_; rintro e wn ⟨A3, c3, rfl, R3, hbn⟩; replace hB := bl_trans (bl_trans hB (by go_grown)) hbn; replace P := P.bel (bl_trans (by go_grown) hbn); replace Pc := P.c4; replace Q := Q.bel (bl_trans (by go_grown) hbn); replace Qc := Q.c2; replace X := X.bel (bl_trans (by go_grown) hbn); replace Xc := X.c4; replace R3 := Lib.hid R3; replace R2 := Lib.hid (R2.out.below (bl_trans (by go_grown) hbn)); clear hbn) | (go_at_call 23; refine (eqPattern_any x y z x y z A2 A3 c2 c3 l l _ b1 R2.out R3.out).mono ?_; rintro e wn ⟨rfl, hbn⟩; replace hB := bl_trans (bl_trans hB (by go_grown)) hbn; replace P := P.bel (bl_trans (by go_grown) hbn); replace Pc := P.c4; replace Q := Q.bel (bl_trans (by go_grown) hbn); replace Qc := Q.c2; replace X := X.bel (bl_trans (by go_grown) hbn); replace Xc := X.c4; clear hbn))
    go_wp2
    go_ret
    exact ⟨rfl, (by first | (go_grown; done) | exact bl_trans hB (by go_grown))⟩
end Go.Proofs.Ythclolooidnniaa

/-
  The walk of the law FnExactCountCorners: it returns true for all arguments; no condition.
-/
import Derived.Test.YtoehmocamaamcaaCovC
import Derived.Test.YtoehmocamaamcaaConv
import Derived.Test.YtoehmocamaamcaaInts
import Derived.Test.YtoehmocamaamcaaIn
namespace Go.Proofs.Ytoehmocamaamcaa
open Go.ChangeShapes Go.WideShapes Go.ChangeAt Go.RowKit Go.Deep
set_option linter.unusedVariables false

set_option maxRecDepth 100000 in
set_option maxHeartbeats 4000000 in
theorem walk_FnExactCountCorners (A0 : Option Addr) (c0 : Nat) (l0 : List (Int)) (w : World) (hr0 : RdI w A0 l0) (hl0 : l0.length ≤ maxLen) :
    Calls Try.prog 5 #[.agg #[.slice A0 l0.length c0]] w fun e w' => e = .returned (.bool true) ∧ Below w.heap.size w w' := by
  have hB := Below.refl w.heap.size w
  have P0 := Blk.new w 31 [.slice A0 l0.length c0]
  have P0c := P0.c1
  have hr0' := Lib.hid hr0
  clear hr0
  have q0 := szSub_le (1048576) l0.length (by omega) (by omega)
  by_cases h0 : szSub 1048576 l0.length < 0
  · go_enter Try.func5, Try.ntmps5
    go_wp2_with (go_at_call 16; refine (szRegion_any _ _ _ _ _ (by omega) (by omega) (by assumption)).mono ?_; rintro e wn ⟨rfl, hbn⟩; have hSz := bl_sz (bl_trans hB (by go_grown)) hbn; replace hB := bl_trans (bl_trans hB (by go_grown)) hbn; replace P0 := P0.bel (bl_trans (by go_grown) hbn); replace P0c := P0.c1; clear hbn)
    go_ret
    exact ⟨rfl, (by first | (go_grown; done) | exact bl_trans hB (by go_grown))⟩
  · have f0 := szSub_fits (left := 1048576) (n := l0.length) (by omega)
    have b0 : l0.length ≤ 1048576 := by omega
    clear f0
    go_enter Try.func5, Try.ntmps5
    go_wp2_with (go_at_call 16; refine (szRegion_any _ _ _ _ _ (by omega) (by omega) (by assumption)).mono ?_; rintro e wn ⟨rfl, hbn⟩; have hSz := bl_sz (bl_trans hB (by go_grown)) hbn; replace hB := bl_trans (bl_trans hB (by go_grown)) hbn; replace P0 := P0.bel (bl_trans (by go_grown) hbn); replace P0c := P0.c1; clear hbn)
    have pP0 := P0.lt
    have s0 : w.heap.size ≤ wn.heap.size := hB.size
    (refine (toRegion_any A0 c0 l0 _ b0 (hr0'.out.below (bl_trans hB (by go_grown)))).mono ?_; rintro e w1 ⟨v1, rfl, o1, hb1⟩; have s1 := (bl_trans (w := wn) (by go_grown) hb1).size; replace hB := bl_trans (bl_trans hB (by go_grown)) hb1; obtain ⟨⟨B1, d1, rfl⟩, _⟩ := id o1; have F1 := Lib.hid (o1.in_ (bl_start (w := wn) (by go_grown))); clear o1; replace P0 := P0.bel (bl_trans (by go_grown) hb1); replace P0c := P0.c1; have pP0 := P0.lt; clear hb1)
    go_wp2_with fail
    (refine (CountCorners_s _ _ _ _ b0 (F1.out.rd.below (by go_grown))).mono ?_; rintro e w2 ⟨rfl, hb2⟩; have s2 := (bl_trans (w := w1) (by go_grown) hb2).size; replace hB := bl_trans (bl_trans hB (by go_grown)) hb2; replace P0 := P0.bel (bl_trans (by go_grown) hb2); replace P0c := P0.c1; replace F1 := Lib.hid (F1.out.bel (bl_trans (by go_grown) hb2)); clear hb2)
    clear F1
    go_wp2_with fail
    (refine (toRegion_any A0 c0 l0 _ b0 (hr0'.out.below (bl_trans hB (by go_grown)))).mono ?_; rintro e w3 ⟨v3, rfl, o3, hb3⟩; have s3 := (bl_trans (w := w2) (by go_grown) hb3).size; replace hB := bl_trans (bl_trans hB (by go_grown)) hb3; obtain ⟨⟨B3, d3, rfl⟩, _⟩ := id o3; have F3 := Lib.hid (o3.in_ (bl_start (w := w2) (by go_grown))); clear o3; replace P0 := P0.bel (bl_trans (by go_grown) hb3); replace P0c := P0.c1; clear hb3)
    have X0 := Blk.new w3 34 [.slice B3 l0.length d3]
    have X0c := X0.c1
    replace P0 := P0.alloc (.cells #[.slice B3 l0.length d3] 34); replace P0c := P0.c1
    go_wp2_with fail
    (refine (CountCorners_i _ _ _ _ b0 (F3.out.rd.below (by go_grown))).mono ?_; rintro e w4 ⟨rfl, hb4⟩; have s4 := (bl_trans (w := w3) (by go_grown) hb4).size; replace hB := bl_trans (bl_trans hB (by go_grown)) hb4; replace P0 := P0.bel (bl_trans (by go_grown) hb4); replace P0c := P0.c1; replace X0 := X0.bel (bl_trans (by go_grown) hb4); replace X0c := X0.c1; replace F3 := Lib.hid (F3.out.bel (bl_trans (by go_grown) hb4)); clear hb4)
    go_wp2_with fail
    have hR := Below.refl w4.heap.size w4
    go_region_held3 (fun w' => (w'.cell? ⟨w.heap.size, 0, none⟩ = some (.slice A0 l0.length c0)) ∧ (w'.cell? ⟨w3.heap.size, 0, none⟩ = some (.slice B3 l0.length d3))) (go_keep)
      (first | (go_at_call 18; refine (toRegion_any A0 c0 l0 _ b0 (hr0'.out.below (bl_trans hB (by go_grown)))).mono ?_; rintro e w5 ⟨v5, rfl, o5, hb5⟩; skip; replace hB := bl_trans (bl_trans hB (by go_grown)) hb5; obtain ⟨⟨B5, d5, rfl⟩, _⟩ := id o5; have F5 := Lib.hid (o5.in_ (bl_size2 hR (by go_grown))); clear o5; replace P0 := P0.bel (bl_trans (by go_grown) hb5); replace P0c := P0.c1; replace X0 := X0.bel (bl_trans (by go_grown) hb5); replace X0c := X0.c1; replace F3 := Lib.hid (F3.out.bel (bl_trans (by go_grown) hb5)); replace hR := bl_trans (bl_trans hR (by go_grown)) hb5; clear hb5) | (go_at_call 20; refine (eqRegion_any _ _ _ _ _ _ _ b0 (F3.out.rd.below (by go_grown)) (F5.out.rd.below (by go_grown))).mono ?_; rintro e w6 ⟨rfl, hb6⟩; skip; replace hB := bl_trans (bl_trans hB (by go_grown)) hb6; replace P0 := P0.bel (bl_trans (by go_grown) hb6); replace P0c := P0.c1; replace X0 := X0.bel (bl_trans (by go_grown) hb6); replace X0c := X0.c1; replace F3 := Lib.hid (F3.out.bel (bl_trans (by go_grown) hb6)); try replace F5 := Lib.hid (F5.out.bel (bl_trans (by go_grown) hb6)); replace hR := bl_trans (bl_trans hR (by go_grown)) hb6; clear hb6))
    clear F5
    have s6 := hR.size
    clear hR
    go_wp2_with fail
    go_ret
    exact ⟨rfl, (by first | (go_grown; done) | exact bl_trans hB (by go_grown))⟩
end Go.Proofs.Ytoehmocamaamcaa

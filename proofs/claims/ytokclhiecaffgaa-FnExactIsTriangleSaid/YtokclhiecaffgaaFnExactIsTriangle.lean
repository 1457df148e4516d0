/-
  The walk of the law FnExactIsTriangle: it returns true for all arguments; no condition.
-/
import Derived.Test.YtokclhiecaffgaaTri
namespace Go.Proofs.Ytokclhiecaffgaa
open Go.ChangeShapes Go.WideShapes Go.ChangeAt Go.RowKit Go.Deep
set_option linter.unusedVariables false

set_option maxRecDepth 100000 in
set_option maxHeartbeats 4000000 in
theorem walk_FnExactIsTriangle (A0 : Option Addr) (c0 : Nat) (l0 : List (List Int)) (w : World) (hr0 : RdII w A0 l0) (hl0 : l0.length ≤ maxLen) (hm0 : ∀ r ∈ l0, r.length ≤ maxLen) :
    Calls Try.prog 7 #[.slice A0 l0.length c0] w fun e w' => e = .returned (.bool true) ∧ Below w.heap.size w w' := by
  have hB := Below.refl w.heap.size w
  have hr0' := Lib.hid hr0
  have hm0' := Lib.hid hm0
  clear hr0 hm0
  go_enter Try.func7, Try.ntmps7
  go_wp2_with fail
  (refine (szIntSS_any A0 c0 l0 _ hr0'.out hl0 hm0'.out).mono ?_; rintro e wn ⟨sz, rfl, q1, q2, hfit, rfl⟩)
  have Hfit := Lib.hid hfit
  clear hfit
  by_cases hs : sz < 0
  · go_wp2_with fail
    go_ret
    exact ⟨rfl, hB⟩
  · have fit := Hfit.out (by omega)
    unfold szFits at fit
    have b0 : l0.length ≤ 1048576 := by omega
    have t0 : tot l0 ≤ 1048576 := by omega
    have bm0 := Lib.hid (show ∀ r ∈ l0, r.length ≤ 1048576 from fun r hr => Nat.le_trans (tot_mem hr) t0)
    clear fit
    go_wp2_with fail
    (refine (toIntSS_any A0 _ c0 l0 _ rfl b0 bm0.out (hr0'.out.below (bl_trans hB (by go_grown)))).mono ?_; rintro e w1 ⟨v1, rfl, o1, hb1⟩; have s1 := (bl_trans (w := w) (by go_grown) hb1).size; replace hB := bl_trans (bl_trans hB (by go_grown)) hb1; obtain ⟨⟨B1, d1, rfl⟩, _⟩ := id o1; have F1 := Lib.hid (o1.wide (bl_start (w := w) (by go_grown)) (Nat.le_refl _)); clear o1; clear hb1)
    go_wp2_with fail
    (refine (IsTriangle_s _ _ _ _ _ rfl b0 bm0.out (F1.out.rd.below (by go_grown))).mono ?_; rintro e w2 ⟨rfl, hb2⟩; have s2 := (bl_trans (w := w1) (by go_grown) hb2).size; replace hB := bl_trans (bl_trans hB (by go_grown)) hb2; replace F1 := Lib.hid (F1.out.bel (bl_trans (by go_grown) hb2)); clear hb2)
    clear F1
    go_wp2_with fail
    (refine (toIntSS_any A0 _ c0 l0 _ rfl b0 bm0.out (hr0'.out.below (bl_trans hB (by go_grown)))).mono ?_; rintro e w3 ⟨v3, rfl, o3, hb3⟩; have s3 := (bl_trans (w := w2) (by go_grown) hb3).size; replace hB := bl_trans (bl_trans hB (by go_grown)) hb3; obtain ⟨⟨B3, d3, rfl⟩, _⟩ := id o3; have F3 := Lib.hid (o3.wide (bl_start (w := w2) (by go_grown)) (Nat.le_refl _)); clear o3; clear hb3)
    go_wp2_with fail
    (refine (IsTriangle_i _ _ _ _ _ rfl b0 bm0.out (F3.out.rd.below (by go_grown))).mono ?_; rintro e w4 ⟨rfl, hb4⟩; have s4 := (bl_trans (w := w3) (by go_grown) hb4).size; replace hB := bl_trans (bl_trans hB (by go_grown)) hb4; replace F3 := Lib.hid (F3.out.bel (bl_trans (by go_grown) hb4)); clear hb4)
    go_wp2_with fail
    (refine (toIntSS_any A0 _ c0 l0 _ rfl b0 bm0.out (hr0'.out.below (bl_trans hB (by go_grown)))).mono ?_; rintro e w5 ⟨v5, rfl, o5, hb5⟩; have s5 := (bl_trans (w := w4) (by go_grown) hb5).size; replace hB := bl_trans (bl_trans hB (by go_grown)) hb5; obtain ⟨⟨B5, d5, rfl⟩, _⟩ := id o5; have F5 := Lib.hid (o5.wide (bl_start (w := w4) (by go_grown)) (Nat.le_refl _)); clear o5; replace F3 := Lib.hid (F3.out.bel (bl_trans (by go_grown) hb5)); clear hb5)
    go_wp2_with fail
    (refine (eqIntSS_any _ _ _ _ _ _ _ _ _ rfl rfl b0 bm0.out (F3.out.rd.below (by go_grown)) (F5.out.rd.below (by go_grown))).mono ?_; rintro e w6 ⟨rfl, hb6⟩; have s6 := (bl_trans (w := w5) (by go_grown) hb6).size; replace hB := bl_trans (bl_trans hB (by go_grown)) hb6; replace F3 := Lib.hid (F3.out.bel (bl_trans (by go_grown) hb6)); replace F5 := Lib.hid (F5.out.bel (bl_trans (by go_grown) hb6)); clear hb6)
    clear F5
    go_wp2_with fail
    go_ret
    exact ⟨rfl, (by first | (go_grown; done) | exact bl_trans hB (by go_grown))⟩
end Go.Proofs.Ytokclhiecaffgaa

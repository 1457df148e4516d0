/-
  The walk of the law FnExactStripePattern: it returns true for all arguments; no condition.
-/
import Derived.Test.YtokclhiecaffgaaStripe
import Derived.Test.YtokclhiecaffgaaIn
namespace Go.Proofs.Ytokclhiecaffgaa
open Go.ChangeShapes Go.WideShapes Go.ChangeAt Go.RowKit Go.Deep
set_option linter.unusedVariables false

set_option maxRecDepth 100000 in
set_option maxHeartbeats 4000000 in
theorem walk_FnExactStripePattern (x0 : Int) (w : World) (g0a : I64 x0) :
    Calls Try.prog 4 #[.int .i64 x0] w fun e w' => e = .returned (.bool true) ∧ Below w.heap.size w w' := by
  have hB := Below.refl w.heap.size w
  go_enter Try.func4, Try.ntmps4
  go_wp2_with fail
  have hlen : (stripe x0).length ≤ 1048576 := by have := stripe_len x0; omega
  (refine (StripePattern_s _ _).mono ?_; rintro e w1 ⟨v1, rfl, o1, hb1⟩; have s1 := (bl_trans (w := w) (by go_grown) hb1).size; replace hB := bl_trans (bl_trans hB (by go_grown)) hb1; obtain ⟨⟨B1, d1, rfl⟩, _⟩ := id o1; have F1 := Lib.hid (o1.in_ (bl_start (w := w) (by go_grown))); clear o1; clear hb1)
  have YF1 := Blk.new w1 28 [.int .i64 (stripeK x0), .int .i64 (stripeK x0), .int .i64 (stripeK x0), .slice B1 (stripe x0).length d1]
  have YF1c := YF1.c4
  go_wp2_with fail
  (refine (StripePattern_i _ _).mono ?_; rintro e w2 ⟨v2, rfl, o2, hb2⟩; have s2 := (bl_trans (w := w1) (by go_grown) hb2).size; replace hB := bl_trans (bl_trans hB (by go_grown)) hb2; obtain ⟨⟨B2, d2, rfl⟩, _⟩ := id o2; have F2 := Lib.hid (o2.in_ (lo' := w1.heap.size + 1) (by simp)); clear o2; replace YF1 := YF1.bel (bl_trans (by go_grown) hb2); replace YF1c := YF1.c4; replace F1 := Lib.hid (F1.out.bel (bl_trans (by go_grown) hb2)); clear hb2)
  have YF2 := Blk.new w2 28 [.int .i64 (stripeK x0), .int .i64 (stripeK x0), .int .i64 (stripeK x0), .slice B2 (stripe x0).length d2]
  have YF2c := YF2.c4
  replace YF1 := YF1.alloc (.cells #[.int .i64 (stripeK x0), .int .i64 (stripeK x0), .int .i64 (stripeK x0), .slice B2 (stripe x0).length d2] 28); replace YF1c := YF1.c4
  go_wp2_with fail
  (refine (eqPattern_any _ _ _ _ _ _ _ _ _ _ _ _ _ hlen (F2.out.rd.below (by go_grown)) (F1.out.rd.below (by go_grown))).mono ?_; rintro e w3 ⟨rfl, hb3⟩; have s3 := (bl_trans (w := w2) (by go_grown) hb3).size; replace hB := bl_trans (bl_trans hB (by go_grown)) hb3; replace YF1 := YF1.bel (bl_trans (by go_grown) hb3); replace YF1c := YF1.c4; replace YF2 := YF2.bel (bl_trans (by go_grown) hb3); replace YF2c := YF2.c4; replace F1 := Lib.hid (F1.out.bel (bl_trans (by go_grown) hb3)); replace F2 := Lib.hid (F2.out.bel (bl_trans (by go_grown) hb3)); clear hb3)
  go_wp2_with fail
  (refine (markPattern_in _ _ _ _ _ _ _ _ _ _ _ hlen (by omega) (by omega) (F2.out.bel (by go_grown))).mono ?_; rintro e w4 ⟨rfl, m4, hg4⟩; have s4 := (grown_bel (w := w3) (by go_grown) hg4).size; replace hB := bl_grown' (bl_trans hB (by go_grown)) hg4 (bl_trans hB (by go_grown)).size (fun k hk => by have := F2.out.rng k hk; omega); replace YF1 := (YF1.bel (by go_grown)).far' hg4 (fun k hk => by have := F2.out.rng k hk; omega); replace YF1c := YF1.c4; replace YF2 := (YF2.bel (by go_grown)).far' hg4 (fun k hk => by have := F2.out.rng k hk; omega); replace YF2c := YF2.c4; replace F1 := Lib.hid ((F1.out.bel (by go_grown)).far hg4 (fun k hk => by have := F2.out.rng k hk; omega)); replace F2 := Lib.hid m4; clear m4 hg4)
  go_wp2_with fail
  (refine (heldPattern_in _ _ _ _ _ _ _ _ hlen (by omega) (by omega) (F2.out.rd.below (by go_grown))).mono ?_; rintro e w5 ⟨rfl, hb5⟩; have s5 := (bl_trans (w := w4) (by go_grown) hb5).size; replace hB := bl_trans (bl_trans hB (by go_grown)) hb5; replace YF1 := YF1.bel (bl_trans (by go_grown) hb5); replace YF1c := YF1.c4; replace YF2 := YF2.bel (bl_trans (by go_grown) hb5); replace YF2c := YF2.c4; replace F1 := Lib.hid (F1.out.bel (bl_trans (by go_grown) hb5)); replace F2 := Lib.hid (F2.out.bel (bl_trans (by go_grown) hb5)); clear hb5)
  go_wp2_with fail
  (refine (StripePattern_i _ _).mono ?_; rintro e w6 ⟨v6, rfl, o6, hb6⟩; have s6 := (bl_trans (w := w5) (by go_grown) hb6).size; replace hB := bl_trans (bl_trans hB (by go_grown)) hb6; obtain ⟨⟨B6, d6, rfl⟩, _⟩ := id o6; have F6 := Lib.hid (o6.in_ (bl_start (w := w5) (by go_grown))); clear o6; replace YF1 := YF1.bel (bl_trans (by go_grown) hb6); replace YF1c := YF1.c4; replace YF2 := YF2.bel (bl_trans (by go_grown) hb6); replace YF2c := YF2.c4; replace F1 := Lib.hid (F1.out.bel (bl_trans (by go_grown) hb6)); replace F2 := Lib.hid (F2.out.bel (bl_trans (by go_grown) hb6)); clear hb6)
  have YF6 := Blk.new w6 28 [.int .i64 (stripeK x0), .int .i64 (stripeK x0), .int .i64 (stripeK x0), .slice B6 (stripe x0).length d6]
  have YF6c := YF6.c4
  replace YF1 := YF1.alloc (.cells #[.int .i64 (stripeK x0), .int .i64 (stripeK x0), .int .i64 (stripeK x0), .slice B6 (stripe x0).length d6] 28); replace YF1c := YF1.c4
  replace YF2 := YF2.alloc (.cells #[.int .i64 (stripeK x0), .int .i64 (stripeK x0), .int .i64 (stripeK x0), .slice B6 (stripe x0).length d6] 28); replace YF2c := YF2.c4
  go_wp2_with fail
  (refine (eqPattern_any _ _ _ _ _ _ _ _ _ _ _ _ _ hlen (F6.out.rd.below (by go_grown)) (F1.out.rd.below (by go_grown))).mono ?_; rintro e w7 ⟨rfl, hb7⟩; have s7 := (bl_trans (w := w6) (by go_grown) hb7).size; replace hB := bl_trans (bl_trans hB (by go_grown)) hb7; replace YF1 := YF1.bel (bl_trans (by go_grown) hb7); replace YF1c := YF1.c4; replace YF2 := YF2.bel (bl_trans (by go_grown) hb7); replace YF2c := YF2.c4; replace YF6 := YF6.bel (bl_trans (by go_grown) hb7); replace YF6c := YF6.c4; replace F1 := Lib.hid (F1.out.bel (bl_trans (by go_grown) hb7)); replace F2 := Lib.hid (F2.out.bel (bl_trans (by go_grown) hb7)); replace F6 := Lib.hid (F6.out.bel (bl_trans (by go_grown) hb7)); clear hb7)
  go_wp2_with fail
  (refine (heldPattern_in _ _ _ _ _ _ _ _ hlen (by omega) (by omega) (F2.out.rd.below (by go_grown))).mono ?_; rintro e w8 ⟨rfl, hb8⟩; have s8 := (bl_trans (w := w7) (by go_grown) hb8).size; replace hB := bl_trans (bl_trans hB (by go_grown)) hb8; replace YF1 := YF1.bel (bl_trans (by go_grown) hb8); replace YF1c := YF1.c4; replace YF2 := YF2.bel (bl_trans (by go_grown) hb8); replace YF2c := YF2.c4; replace YF6 := YF6.bel (bl_trans (by go_grown) hb8); replace YF6c := YF6.c4; replace F1 := Lib.hid (F1.out.bel (bl_trans (by go_grown) hb8)); replace F2 := Lib.hid (F2.out.bel (bl_trans (by go_grown) hb8)); replace F6 := Lib.hid (F6.out.bel (bl_trans (by go_grown) hb8)); clear hb8)
  go_wp2_with fail
  go_ret
  exact ⟨rfl, (by first | (go_grown; done) | exact bl_trans hB (by go_grown))⟩
end Go.Proofs.Ytokclhiecaffgaa

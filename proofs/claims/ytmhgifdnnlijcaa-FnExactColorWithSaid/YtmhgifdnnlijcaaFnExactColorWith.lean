/-
  The walk of the law FnExactColorWith: it returns true for all arguments; no condition.
-/
import Derived.Test.YtmhgifdnnlijcaaSearch
import Derived.Test.YtmhgifdnnlijcaaIn
namespace Go.Proofs.Ytmhgifdnnlijcaa
open Go.ChangeShapes Go.WideShapes Go.ChangeAt Go.RowKit Go.Deep
set_option linter.unusedVariables false

set_option maxRecDepth 100000 in
set_option maxHeartbeats 4000000 in
theorem walk_FnExactColorWith (A0 : Option Addr) (c0 : Nat) (l0 : List (Int × Int × Bool)) (x1 : Int) (w : World) (hr0 : RdD w A0 l0) (hl0 : l0.length ≤ maxLen) (g1a : I64 x1) :
    Calls Try.prog 9 #[.slice A0 l0.length c0, .int .i64 x1] w fun e w' => e = .returned (.bool true) ∧ Below w.heap.size w w' := by
  have hB := Below.refl w.heap.size w
  have hr0' := Lib.hid hr0
  clear hr0
  have q0 := szSub_le (1048576) l0.length (by omega) (by omega)
  by_cases h0 : szSub 1048576 l0.length < 0
  · go_enter Try.func9, Try.ntmps9
    go_wp2_with (go_at_call 15; refine (szDominoS_any _ _ _ _ _ (by omega) (by omega) (by assumption)).mono ?_; rintro e wn ⟨rfl, rfl⟩)
    go_ret
    exact ⟨rfl, (by first | (go_grown; done) | exact bl_trans hB (by go_grown))⟩
  · have f0 := szSub_fits (left := 1048576) (n := l0.length) (by omega)
    have b0 : l0.length ≤ 1048576 := by omega
    clear f0
    go_enter Try.func9, Try.ntmps9
    go_wp2_with (go_at_call 15; refine (szDominoS_any _ _ _ _ _ (by omega) (by omega) (by assumption)).mono ?_; rintro e wn ⟨rfl, rfl⟩)
    have hlen : (((colorR l0 x1).getD [])).length ≤ 1048576 := by have := colorR_len l0 x1; omega
    (refine (toDominoS_any A0 c0 l0 _ b0 (hr0'.out.below (bl_trans hB (by go_grown)))).mono ?_; rintro e w1 ⟨v1, rfl, o1, hb1⟩; have s1 := (bl_trans (w := w) (by go_grown) hb1).size; replace hB := bl_trans (bl_trans hB (by go_grown)) hb1; obtain ⟨⟨B1, d1, rfl⟩, _⟩ := id o1; have F1 := Lib.hid (o1.in_ (bl_start (w := w) (by go_grown))); clear o1; clear hb1)
    go_wp2_with fail
    (refine (ColorWith_s _ _ _ _ _ b0 (F1.out.rd.below (by go_grown))).mono ?_; rintro e w2 ⟨v2, rfl, o2, hb2⟩; have s2 := (bl_trans (w := w1) (by go_grown) hb2).size; replace hB := bl_trans (bl_trans hB (by go_grown)) hb2; obtain ⟨⟨B2, d2, rfl⟩, _⟩ := id o2; have F2 := Lib.hid (o2.in_ (bl_start (w := w1) (by go_grown))); clear o2; replace F1 := Lib.hid (F1.out.bel (bl_trans (by go_grown) hb2)); clear hb2)
    clear F1
    go_wp2_with fail
    (refine (toDominoS_any A0 c0 l0 _ b0 (hr0'.out.below (bl_trans hB (by go_grown)))).mono ?_; rintro e w3 ⟨v3, rfl, o3, hb3⟩; have s3 := (bl_trans (w := w2) (by go_grown) hb3).size; replace hB := bl_trans (bl_trans hB (by go_grown)) hb3; obtain ⟨⟨B3, d3, rfl⟩, _⟩ := id o3; have F3 := Lib.hid (o3.in_ (bl_start (w := w2) (by go_grown))); clear o3; replace F2 := Lib.hid (F2.out.bel (bl_trans (by go_grown) hb3)); clear hb3)
    go_wp2_with fail
    (refine (ColorWith_i _ _ _ _ _ b0 (F3.out.rd.below (by go_grown)) F3.out.cap).mono ?_; rintro e w4 ⟨v4, rfl, o4, hb4⟩; have s4 := (bl_trans (w := w3) (by go_grown) hb4).size; replace hB := bl_trans (bl_trans hB (by go_grown)) hb4; obtain ⟨⟨B4, d4, rfl⟩, _⟩ := id o4; have F4 := Lib.hid (o4.in_ (bl_start (w := w3) (by go_grown))); clear o4; replace F2 := Lib.hid (F2.out.bel (bl_trans (by go_grown) hb4)); replace F3 := Lib.hid (F3.out.bel (bl_trans (by go_grown) hb4)); clear hb4)
    go_wp2_with fail
    (refine (eqIntS_any _ _ _ _ _ _ _ hlen (F4.out.rd.below (by go_grown)) (F2.out.rd.below (by go_grown))).mono ?_; rintro e w5 ⟨rfl, hb5⟩; have s5 := (bl_trans (w := w4) (by go_grown) hb5).size; replace hB := bl_trans (bl_trans hB (by go_grown)) hb5; replace F2 := Lib.hid (F2.out.bel (bl_trans (by go_grown) hb5)); replace F3 := Lib.hid (F3.out.bel (bl_trans (by go_grown) hb5)); replace F4 := Lib.hid (F4.out.bel (bl_trans (by go_grown) hb5)); clear hb5)
    go_wp2_with fail
    (refine (toDominoS_any A0 c0 l0 _ b0 (hr0'.out.below (bl_trans hB (by go_grown)))).mono ?_; rintro e w6 ⟨v6, rfl, o6, hb6⟩; have s6 := (bl_trans (w := w5) (by go_grown) hb6).size; replace hB := bl_trans (bl_trans hB (by go_grown)) hb6; obtain ⟨⟨B6, d6, rfl⟩, _⟩ := id o6; have F6 := Lib.hid (o6.in_ (bl_start (w := w5) (by go_grown))); clear o6; replace F2 := Lib.hid (F2.out.bel (bl_trans (by go_grown) hb6)); replace F3 := Lib.hid (F3.out.bel (bl_trans (by go_grown) hb6)); replace F4 := Lib.hid (F4.out.bel (bl_trans (by go_grown) hb6)); clear hb6)
    go_wp2_with fail
    (refine (eqDominoS_any _ _ _ _ _ _ _ b0 (F3.out.rd.below (by go_grown)) (F6.out.rd.below (by go_grown))).mono ?_; rintro e w7 ⟨rfl, hb7⟩; have s7 := (bl_trans (w := w6) (by go_grown) hb7).size; replace hB := bl_trans (bl_trans hB (by go_grown)) hb7; replace F2 := Lib.hid (F2.out.bel (bl_trans (by go_grown) hb7)); replace F3 := Lib.hid (F3.out.bel (bl_trans (by go_grown) hb7)); replace F4 := Lib.hid (F4.out.bel (bl_trans (by go_grown) hb7)); replace F6 := Lib.hid (F6.out.bel (bl_trans (by go_grown) hb7)); clear hb7)
    clear F6
    go_wp2_with fail
    (refine (markDominoS_in _ _ _ _ _ _ _ _ b0 (by omega) (by omega) (F3.out.bel (by go_grown))).mono ?_; rintro e w8 ⟨rfl, m8, hg8⟩; have s8 := (grown_bel (w := w7) (by go_grown) hg8).size; replace hB := bl_grown' (bl_trans hB (by go_grown)) hg8 (bl_trans hB (by go_grown)).size (fun k hk => by have := F3.out.rng k hk; omega); replace F2 := Lib.hid ((F2.out.bel (by go_grown)).far hg8 (fun k hk => by have := F3.out.rng k hk; omega)); replace F4 := Lib.hid ((F4.out.bel (by go_grown)).far hg8 (fun k hk => by have := F3.out.rng k hk; omega)); replace F3 := Lib.hid m8; clear m8 hg8)
    go_wp2_with fail
    (refine (eqIntS_any _ _ _ _ _ _ _ hlen (F4.out.rd.below (by go_grown)) (F2.out.rd.below (by go_grown))).mono ?_; rintro e w9 ⟨rfl, hb9⟩; have s9 := (bl_trans (w := w8) (by go_grown) hb9).size; replace hB := bl_trans (bl_trans hB (by go_grown)) hb9; replace F2 := Lib.hid (F2.out.bel (bl_trans (by go_grown) hb9)); replace F3 := Lib.hid (F3.out.bel (bl_trans (by go_grown) hb9)); replace F4 := Lib.hid (F4.out.bel (bl_trans (by go_grown) hb9)); clear hb9)
    go_wp2_with fail
    (refine (markIntS_in _ _ _ _ _ _ _ _ hlen (by omega) (by omega) (F4.out.bel (by go_grown))).mono ?_; rintro e w10 ⟨rfl, m10, hg10⟩; have s10 := (grown_bel (w := w9) (by go_grown) hg10).size; replace hB := bl_grown' (bl_trans hB (by go_grown)) hg10 (bl_trans hB (by go_grown)).size (fun k hk => by have := F4.out.rng k hk; omega); replace F2 := Lib.hid ((F2.out.bel (by go_grown)).far hg10 (fun k hk => by have := F4.out.rng k hk; omega)); replace F3 := Lib.hid ((F3.out.bel (by go_grown)).far hg10 (fun k hk => by have := F4.out.rng k hk; omega)); replace F4 := Lib.hid m10; clear m10 hg10)
    go_wp2_with fail
    (refine (heldIntS_in _ _ _ _ _ hlen (by omega) (by omega) (F4.out.rd.below (by go_grown))).mono ?_; rintro e wh11 ⟨rfl, rfl⟩)
    go_wp2_with fail
    (refine (toDominoS_any A0 c0 l0 _ b0 (hr0'.out.below (bl_trans hB (by go_grown)))).mono ?_; rintro e w11 ⟨v11, rfl, o11, hb11⟩; have s11 := (bl_trans (w := w10) (by go_grown) hb11).size; replace hB := bl_trans (bl_trans hB (by go_grown)) hb11; obtain ⟨⟨B11, d11, rfl⟩, _⟩ := id o11; have F11 := Lib.hid (o11.in_ (bl_start (w := w10) (by go_grown))); clear o11; replace F2 := Lib.hid (F2.out.bel (bl_trans (by go_grown) hb11)); replace F3 := Lib.hid (F3.out.bel (bl_trans (by go_grown) hb11)); replace F4 := Lib.hid (F4.out.bel (bl_trans (by go_grown) hb11)); clear hb11)
    go_wp2_with fail
    (refine (ColorWith_i _ _ _ _ _ b0 (F11.out.rd.below (by go_grown)) F11.out.cap).mono ?_; rintro e w12 ⟨v12, rfl, o12, hb12⟩; have s12 := (bl_trans (w := w11) (by go_grown) hb12).size; replace hB := bl_trans (bl_trans hB (by go_grown)) hb12; obtain ⟨⟨B12, d12, rfl⟩, _⟩ := id o12; have F12 := Lib.hid (o12.in_ (bl_start (w := w11) (by go_grown))); clear o12; replace F2 := Lib.hid (F2.out.bel (bl_trans (by go_grown) hb12)); replace F3 := Lib.hid (F3.out.bel (bl_trans (by go_grown) hb12)); replace F4 := Lib.hid (F4.out.bel (bl_trans (by go_grown) hb12)); replace F11 := Lib.hid (F11.out.bel (bl_trans (by go_grown) hb12)); clear hb12)
    clear F11
    go_wp2_with fail
    (refine (eqIntS_any _ _ _ _ _ _ _ hlen (F12.out.rd.below (by go_grown)) (F2.out.rd.below (by go_grown))).mono ?_; rintro e w13 ⟨rfl, hb13⟩; have s13 := (bl_trans (w := w12) (by go_grown) hb13).size; replace hB := bl_trans (bl_trans hB (by go_grown)) hb13; replace F2 := Lib.hid (F2.out.bel (bl_trans (by go_grown) hb13)); replace F3 := Lib.hid (F3.out.bel (bl_trans (by go_grown) hb13)); replace F4 := Lib.hid (F4.out.bel (bl_trans (by go_grown) hb13)); replace F12 := Lib.hid (F12.out.bel (bl_trans (by go_grown) hb13)); clear hb13)
    go_wp2_with fail
    (refine (heldIntS_in _ _ _ _ _ hlen (by omega) (by omega) (F4.out.rd.below (by go_grown))).mono ?_; rintro e wh14 ⟨rfl, rfl⟩)
    go_wp2_with fail
    go_ret
    exact ⟨rfl, (by first | (go_grown; done) | exact bl_trans hB (by go_grown))⟩
end Go.Proofs.Ytmhgifdnnlijcaa

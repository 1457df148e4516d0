/-
  The walk of the law FnExactChangedCells: it returns true for all arguments; no condition.
-/
import Derived.Test.YtlbhicibnbcbaaaChanged
import Derived.Test.YtlbhicibnbcbaaaCells
import Derived.Test.YtlbhicibnbcbaaaIn
namespace Go.Proofs.Ytlbhicibnbcbaaa
open Go.ChangeShapes Go.WideShapes Go.ChangeAt Go.RowKit Go.Deep
set_option linter.unusedVariables false

set_option maxRecDepth 100000 in
set_option maxHeartbeats 4000000 in
theorem walk_FnExactChangedCells (A0 : Option Addr) (c0 : Nat) (l0 : List (Int × Int × Bool)) (A1 : Option Addr) (c1 : Nat) (l1 : List (Int × Int × Bool)) (w : World) (hr0 : RdD w A0 l0) (hl0 : l0.length ≤ maxLen) (hr1 : RdD w A1 l1) (hl1 : l1.length ≤ maxLen) :
    Calls Try.prog 4 #[.slice A0 l0.length c0, .slice A1 l1.length c1] w fun e w' => e = .returned (.bool true) ∧ Below w.heap.size w w' := by
  have hB := Below.refl w.heap.size w
  have hr0' := Lib.hid hr0
  have hr1' := Lib.hid hr1
  clear hr0 hr1
  have q0 := szSub_le (1048576) l0.length (by omega) (by omega)
  by_cases h0 : szSub 1048576 l0.length < 0
  · go_enter Try.func4, Try.ntmps4
    go_wp2_with (go_at_call 21; refine (szDominoS_any _ _ _ _ _ (by omega) (by omega) (by assumption)).mono ?_; rintro e wn ⟨rfl, rfl⟩)
    go_ret
    exact ⟨rfl, (by first | (go_grown; done) | exact bl_trans hB (by go_grown))⟩
  · have f0 := szSub_fits (left := 1048576) (n := l0.length) (by omega)
    have b0 : l0.length ≤ 1048576 := by omega
    clear f0
    have q1 := szSub_le (szSub 1048576 l0.length) l1.length (by omega) (by omega)
    by_cases h1 : szSub (szSub 1048576 l0.length) l1.length < 0
    · go_enter Try.func4, Try.ntmps4
      go_wp2_with (go_at_call 21; refine (szDominoS_any _ _ _ _ _ (by omega) (by omega) (by assumption)).mono ?_; rintro e wn ⟨rfl, rfl⟩)
      go_ret
      exact ⟨rfl, (by first | (go_grown; done) | exact bl_trans hB (by go_grown))⟩
    · have f1 := szSub_fits (left := szSub 1048576 l0.length) (n := l1.length) (by omega)
      have b1 : l1.length ≤ 1048576 := by omega
      clear f1
      go_enter Try.func4, Try.ntmps4
      go_wp2_with (go_at_call 21; refine (szDominoS_any _ _ _ _ _ (by omega) (by omega) (by assumption)).mono ?_; rintro e wn ⟨rfl, rfl⟩)
      have hlen : (changed l0 l1).length ≤ 1048576 := by have := changed_len l0 l1; omega
      (refine (toDominoS_any A0 c0 l0 _ b0 (hr0'.out.below (bl_trans hB (by go_grown)))).mono ?_; rintro e w1 ⟨v1, rfl, o1, hb1⟩; have s1 := (bl_trans (w := w) (by go_grown) hb1).size; replace hB := bl_trans (bl_trans hB (by go_grown)) hb1; obtain ⟨⟨B1, d1, rfl⟩, _⟩ := id o1; have F1 := Lib.hid (o1.in_ (bl_start (w := w) (by go_grown))); clear o1; clear hb1)
      go_wp2_with fail
      (refine (toDominoS_any A1 c1 l1 _ b1 (hr1'.out.below (bl_trans hB (by go_grown)))).mono ?_; rintro e w2 ⟨v2, rfl, o2, hb2⟩; have s2 := (bl_trans (w := w1) (by go_grown) hb2).size; replace hB := bl_trans (bl_trans hB (by go_grown)) hb2; obtain ⟨⟨B2, d2, rfl⟩, _⟩ := id o2; have F2 := Lib.hid (o2.in_ (bl_start (w := w1) (by go_grown))); clear o2; replace F1 := Lib.hid (F1.out.bel (bl_trans (by go_grown) hb2)); clear hb2)
      go_wp2_with fail
      (refine (ChangedCells_s _ _ _ _ _ _ _ b0 b1 (F1.out.rd.below (by go_grown)) (F2.out.rd.below (by go_grown))).mono ?_; rintro e w3 ⟨v3, rfl, o3, hb3⟩; have s3 := (bl_trans (w := w2) (by go_grown) hb3).size; replace hB := bl_trans (bl_trans hB (by go_grown)) hb3; obtain ⟨⟨B3, d3, rfl⟩, _⟩ := id o3; have F3 := Lib.hid (o3.in_ (bl_start (w := w2) (by go_grown))); clear o3; replace F1 := Lib.hid (F1.out.bel (bl_trans (by go_grown) hb3)); replace F2 := Lib.hid (F2.out.bel (bl_trans (by go_grown) hb3)); clear hb3)
      clear F1
      clear F2
      go_wp2_with fail
      (refine (toDominoS_any A0 c0 l0 _ b0 (hr0'.out.below (bl_trans hB (by go_grown)))).mono ?_; rintro e w4 ⟨v4, rfl, o4, hb4⟩; have s4 := (bl_trans (w := w3) (by go_grown) hb4).size; replace hB := bl_trans (bl_trans hB (by go_grown)) hb4; obtain ⟨⟨B4, d4, rfl⟩, _⟩ := id o4; have F4 := Lib.hid (o4.in_ (bl_start (w := w3) (by go_grown))); clear o4; replace F3 := Lib.hid (F3.out.bel (bl_trans (by go_grown) hb4)); clear hb4)
      go_wp2_with fail
      (refine (toDominoS_any A1 c1 l1 _ b1 (hr1'.out.below (bl_trans hB (by go_grown)))).mono ?_; rintro e w5 ⟨v5, rfl, o5, hb5⟩; have s5 := (bl_trans (w := w4) (by go_grown) hb5).size; replace hB := bl_trans (bl_trans hB (by go_grown)) hb5; obtain ⟨⟨B5, d5, rfl⟩, _⟩ := id o5; have F5 := Lib.hid (o5.in_ (bl_start (w := w4) (by go_grown))); clear o5; replace F3 := Lib.hid (F3.out.bel (bl_trans (by go_grown) hb5)); replace F4 := Lib.hid (F4.out.bel (bl_trans (by go_grown) hb5)); clear hb5)
      go_wp2_with fail
      (refine (ChangedCells_i _ _ _ _ _ _ _ b0 b1 (F4.out.rd.below (by go_grown)) (F5.out.rd.below (by go_grown))).mono ?_; rintro e w6 ⟨v6, rfl, o6, hb6⟩; have s6 := (bl_trans (w := w5) (by go_grown) hb6).size; replace hB := bl_trans (bl_trans hB (by go_grown)) hb6; obtain ⟨⟨B6, d6, rfl⟩, _⟩ := id o6; have F6 := Lib.hid (o6.in_ (bl_start (w := w5) (by go_grown))); clear o6; replace F3 := Lib.hid (F3.out.bel (bl_trans (by go_grown) hb6)); replace F4 := Lib.hid (F4.out.bel (bl_trans (by go_grown) hb6)); replace F5 := Lib.hid (F5.out.bel (bl_trans (by go_grown) hb6)); clear hb6)
      go_wp2_with fail
      (refine (eqCellS_any _ _ _ _ _ _ _ hlen (F6.out.rd.below (by go_grown)) (F3.out.rd.below (by go_grown))).mono ?_; rintro e w7 ⟨rfl, hb7⟩; have s7 := (bl_trans (w := w6) (by go_grown) hb7).size; replace hB := bl_trans (bl_trans hB (by go_grown)) hb7; replace F3 := Lib.hid (F3.out.bel (bl_trans (by go_grown) hb7)); replace F4 := Lib.hid (F4.out.bel (bl_trans (by go_grown) hb7)); replace F5 := Lib.hid (F5.out.bel (bl_trans (by go_grown) hb7)); replace F6 := Lib.hid (F6.out.bel (bl_trans (by go_grown) hb7)); clear hb7)
      go_wp2_with fail
      (refine (toDominoS_any A0 c0 l0 _ b0 (hr0'.out.below (bl_trans hB (by go_grown)))).mono ?_; rintro e w8 ⟨v8, rfl, o8, hb8⟩; have s8 := (bl_trans (w := w7) (by go_grown) hb8).size; replace hB := bl_trans (bl_trans hB (by go_grown)) hb8; obtain ⟨⟨B8, d8, rfl⟩, _⟩ := id o8; have F8 := Lib.hid (o8.in_ (bl_start (w := w7) (by go_grown))); clear o8; replace F3 := Lib.hid (F3.out.bel (bl_trans (by go_grown) hb8)); replace F4 := Lib.hid (F4.out.bel (bl_trans (by go_grown) hb8)); replace F5 := Lib.hid (F5.out.bel (bl_trans (by go_grown) hb8)); replace F6 := Lib.hid (F6.out.bel (bl_trans (by go_grown) hb8)); clear hb8)
      go_wp2_with fail
      (refine (eqDominoS_any _ _ _ _ _ _ _ b0 (F4.out.rd.below (by go_grown)) (F8.out.rd.below (by go_grown))).mono ?_; rintro e w9 ⟨rfl, hb9⟩; have s9 := (bl_trans (w := w8) (by go_grown) hb9).size; replace hB := bl_trans (bl_trans hB (by go_grown)) hb9; replace F3 := Lib.hid (F3.out.bel (bl_trans (by go_grown) hb9)); replace F4 := Lib.hid (F4.out.bel (bl_trans (by go_grown) hb9)); replace F5 := Lib.hid (F5.out.bel (bl_trans (by go_grown) hb9)); replace F6 := Lib.hid (F6.out.bel (bl_trans (by go_grown) hb9)); replace F8 := Lib.hid (F8.out.bel (bl_trans (by go_grown) hb9)); clear hb9)
      clear F8
      go_wp2_with fail
      (refine (toDominoS_any A1 c1 l1 _ b1 (hr1'.out.below (bl_trans hB (by go_grown)))).mono ?_; rintro e w10 ⟨v10, rfl, o10, hb10⟩; have s10 := (bl_trans (w := w9) (by go_grown) hb10).size; replace hB := bl_trans (bl_trans hB (by go_grown)) hb10; obtain ⟨⟨B10, d10, rfl⟩, _⟩ := id o10; have F10 := Lib.hid (o10.in_ (bl_start (w := w9) (by go_grown))); clear o10; replace F3 := Lib.hid (F3.out.bel (bl_trans (by go_grown) hb10)); replace F4 := Lib.hid (F4.out.bel (bl_trans (by go_grown) hb10)); replace F5 := Lib.hid (F5.out.bel (bl_trans (by go_grown) hb10)); replace F6 := Lib.hid (F6.out.bel (bl_trans (by go_grown) hb10)); clear hb10)
      go_wp2_with fail
      (refine (eqDominoS_any _ _ _ _ _ _ _ b1 (F5.out.rd.below (by go_grown)) (F10.out.rd.below (by go_grown))).mono ?_; rintro e w11 ⟨rfl, hb11⟩; have s11 := (bl_trans (w := w10) (by go_grown) hb11).size; replace hB := bl_trans (bl_trans hB (by go_grown)) hb11; replace F3 := Lib.hid (F3.out.bel (bl_trans (by go_grown) hb11)); replace F4 := Lib.hid (F4.out.bel (bl_trans (by go_grown) hb11)); replace F5 := Lib.hid (F5.out.bel (bl_trans (by go_grown) hb11)); replace F6 := Lib.hid (F6.out.bel (bl_trans (by go_grown) hb11)); replace F10 := Lib.hid (F10.out.bel (bl_trans (by go_grown) hb11)); clear hb11)
      clear F10
      go_wp2_with fail
      (refine (markDominoS_in _ _ _ _ _ _ _ _ b0 (by omega) (by omega) (F4.out.bel (by go_grown))).mono ?_; rintro e w12 ⟨rfl, m12, hg12⟩; have s12 := (grown_bel (w := w11) (by go_grown) hg12).size; replace hB := bl_grown' (bl_trans hB (by go_grown)) hg12 (bl_trans hB (by go_grown)).size (fun k hk => by have := F4.out.rng k hk; omega); replace F3 := Lib.hid ((F3.out.bel (by go_grown)).far hg12 (fun k hk => by have := F4.out.rng k hk; omega)); replace F5 := Lib.hid ((F5.out.bel (by go_grown)).far hg12 (fun k hk => by have := F4.out.rng k hk; omega)); replace F6 := Lib.hid ((F6.out.bel (by go_grown)).far hg12 (fun k hk => by have := F4.out.rng k hk; omega)); replace F4 := Lib.hid m12; clear m12 hg12)
      go_wp2_with fail
      (refine (markDominoS_in _ _ _ _ _ _ _ _ b1 (by omega) (by omega) (F5.out.bel (by go_grown))).mono ?_; rintro e w13 ⟨rfl, m13, hg13⟩; have s13 := (grown_bel (w := w12) (by go_grown) hg13).size; replace hB := bl_grown' (bl_trans hB (by go_grown)) hg13 (bl_trans hB (by go_grown)).size (fun k hk => by have := F5.out.rng k hk; omega); replace F3 := Lib.hid ((F3.out.bel (by go_grown)).far hg13 (fun k hk => by have := F5.out.rng k hk; omega)); replace F4 := Lib.hid ((F4.out.bel (by go_grown)).far hg13 (fun k hk => by have := F5.out.rng k hk; omega)); replace F6 := Lib.hid ((F6.out.bel (by go_grown)).far hg13 (fun k hk => by have := F5.out.rng k hk; omega)); replace F5 := Lib.hid m13; clear m13 hg13)
      go_wp2_with fail
      (refine (eqCellS_any _ _ _ _ _ _ _ hlen (F6.out.rd.below (by go_grown)) (F3.out.rd.below (by go_grown))).mono ?_; rintro e w14 ⟨rfl, hb14⟩; have s14 := (bl_trans (w := w13) (by go_grown) hb14).size; replace hB := bl_trans (bl_trans hB (by go_grown)) hb14; replace F3 := Lib.hid (F3.out.bel (bl_trans (by go_grown) hb14)); replace F4 := Lib.hid (F4.out.bel (bl_trans (by go_grown) hb14)); replace F5 := Lib.hid (F5.out.bel (bl_trans (by go_grown) hb14)); replace F6 := Lib.hid (F6.out.bel (bl_trans (by go_grown) hb14)); clear hb14)
      go_wp2_with fail
      (refine (markCellS_in _ _ _ _ _ _ _ _ hlen (by omega) (by omega) (F6.out.bel (by go_grown))).mono ?_; rintro e w15 ⟨rfl, m15, hg15⟩; have s15 := (grown_bel (w := w14) (by go_grown) hg15).size; replace hB := bl_grown' (bl_trans hB (by go_grown)) hg15 (bl_trans hB (by go_grown)).size (fun k hk => by have := F6.out.rng k hk; omega); replace F3 := Lib.hid ((F3.out.bel (by go_grown)).far hg15 (fun k hk => by have := F6.out.rng k hk; omega)); replace F4 := Lib.hid ((F4.out.bel (by go_grown)).far hg15 (fun k hk => by have := F6.out.rng k hk; omega)); replace F5 := Lib.hid ((F5.out.bel (by go_grown)).far hg15 (fun k hk => by have := F6.out.rng k hk; omega)); replace F6 := Lib.hid m15; clear m15 hg15)
      go_wp2_with fail
      (refine (heldCellS_in _ _ _ _ _ hlen (by omega) (by omega) (F6.out.rd.below (by go_grown))).mono ?_; rintro e wh16 ⟨rfl, rfl⟩)
      go_wp2_with fail
      (refine (toDominoS_any A0 c0 l0 _ b0 (hr0'.out.below (bl_trans hB (by go_grown)))).mono ?_; rintro e w16 ⟨v16, rfl, o16, hb16⟩; have s16 := (bl_trans (w := w15) (by go_grown) hb16).size; replace hB := bl_trans (bl_trans hB (by go_grown)) hb16; obtain ⟨⟨B16, d16, rfl⟩, _⟩ := id o16; have F16 := Lib.hid (o16.in_ (bl_start (w := w15) (by go_grown))); clear o16; replace F3 := Lib.hid (F3.out.bel (bl_trans (by go_grown) hb16)); replace F4 := Lib.hid (F4.out.bel (bl_trans (by go_grown) hb16)); replace F5 := Lib.hid (F5.out.bel (bl_trans (by go_grown) hb16)); replace F6 := Lib.hid (F6.out.bel (bl_trans (by go_grown) hb16)); clear hb16)
      go_wp2_with fail
      (refine (toDominoS_any A1 c1 l1 _ b1 (hr1'.out.below (bl_trans hB (by go_grown)))).mono ?_; rintro e w17 ⟨v17, rfl, o17, hb17⟩; have s17 := (bl_trans (w := w16) (by go_grown) hb17).size; replace hB := bl_trans (bl_trans hB (by go_grown)) hb17; obtain ⟨⟨B17, d17, rfl⟩, _⟩ := id o17; have F17 := Lib.hid (o17.in_ (bl_start (w := w16) (by go_grown))); clear o17; replace F3 := Lib.hid (F3.out.bel (bl_trans (by go_grown) hb17)); replace F4 := Lib.hid (F4.out.bel (bl_trans (by go_grown) hb17)); replace F5 := Lib.hid (F5.out.bel (bl_trans (by go_grown) hb17)); replace F6 := Lib.hid (F6.out.bel (bl_trans (by go_grown) hb17)); replace F16 := Lib.hid (F16.out.bel (bl_trans (by go_grown) hb17)); clear hb17)
      go_wp2_with fail
      (refine (ChangedCells_i _ _ _ _ _ _ _ b0 b1 (F16.out.rd.below (by go_grown)) (F17.out.rd.below (by go_grown))).mono ?_; rintro e w18 ⟨v18, rfl, o18, hb18⟩; have s18 := (bl_trans (w := w17) (by go_grown) hb18).size; replace hB := bl_trans (bl_trans hB (by go_grown)) hb18; obtain ⟨⟨B18, d18, rfl⟩, _⟩ := id o18; have F18 := Lib.hid (o18.in_ (bl_start (w := w17) (by go_grown))); clear o18; replace F3 := Lib.hid (F3.out.bel (bl_trans (by go_grown) hb18)); replace F4 := Lib.hid (F4.out.bel (bl_trans (by go_grown) hb18)); replace F5 := Lib.hid (F5.out.bel (bl_trans (by go_grown) hb18)); replace F6 := Lib.hid (F6.out.bel (bl_trans (by go_grown) hb18)); replace F16 := Lib.hid (F16.out.bel (bl_trans (by go_grown) hb18)); replace F17 := Lib.hid (F17.out.bel (bl_trans (by go_grown) hb18)); clear hb18)
      clear F16
      clear F17
      go_wp2_with fail
      (refine (eqCellS_any _ _ _ _ _ _ _ hlen (F18.out.rd.below (by go_grown)) (F3.out.rd.below (by go_grown))).mono ?_; rintro e w19 ⟨rfl, hb19⟩; have s19 := (bl_trans (w := w18) (by go_grown) hb19).size; replace hB := bl_trans (bl_trans hB (by go_grown)) hb19; replace F3 := Lib.hid (F3.out.bel (bl_trans (by go_grown) hb19)); replace F4 := Lib.hid (F4.out.bel (bl_trans (by go_grown) hb19)); replace F5 := Lib.hid (F5.out.bel (bl_trans (by go_grown) hb19)); replace F6 := Lib.hid (F6.out.bel (bl_trans (by go_grown) hb19)); replace F18 := Lib.hid (F18.out.bel (bl_trans (by go_grown) hb19)); clear hb19)
      go_wp2_with fail
      (refine (heldCellS_in _ _ _ _ _ hlen (by omega) (by omega) (F6.out.rd.below (by go_grown))).mono ?_; rintro e wh20 ⟨rfl, rfl⟩)
      go_wp2_with fail
      go_ret
      exact ⟨rfl, (by first | (go_grown; done) | exact bl_trans hB (by go_grown))⟩
end Go.Proofs.Ytlbhicibnbcbaaa

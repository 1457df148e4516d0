/-
  The walk of the law FnExactTurnsOfShape: it returns true for all arguments; no condition.
-/
import Derived.Test.YthclolooidnniaaTurnW
import Derived.Test.YthclolooidnniaaCellSS
import Derived.Test.YthclolooidnniaaCells
namespace Go.Proofs.Ythclolooidnniaa
open Go.ChangeShapes Go.WideShapes Go.ChangeAt Go.RowKit Go.Deep
set_option linter.unusedVariables false

theorem turnsR_tot (l : List (Int × Int)) : totC (turnsR l) ≤ 1048576 := by
  have h := totC_le (ll := turnsR l) (m := 5) (fun r hr => by have := turnsR_of hr; omega)
  have := turnsR_len l
  omega
set_option maxRecDepth 100000 in
set_option maxHeartbeats 4000000 in
theorem walk_FnExactTurnsOfShape (A0 : Option Addr) (c0 : Nat) (l0 : List (Int × Int)) (w : World) (hr0 : RdC w A0 l0) (hl0 : l0.length ≤ maxLen) :
    Calls Try.prog 11 #[.slice A0 l0.length c0] w fun e w' => e = .returned (.bool true) ∧ Below w.heap.size w w' := by
  have hB := Below.refl w.heap.size w
  have hr0' := Lib.hid hr0
  clear hr0
  have q0 := szSub_le (1048576) l0.length (by omega) (by omega)
  by_cases h0 : szSub 1048576 l0.length < 0
  · go_enter Try.func11, Try.ntmps11
    go_wp2_with (go_at_call 17; refine (szCellS_any _ _ _ _ _ (by omega) (by omega) (by assumption)).mono ?_; rintro e wn ⟨rfl, rfl⟩)
    go_ret
    exact ⟨rfl, hB⟩
  · have f0 := szSub_fits (left := 1048576) (n := l0.length) (by omega)
    have b0 : l0.length ≤ 1048576 := by omega
    clear f0
    go_enter Try.func11, Try.ntmps11
    go_wp2_with (go_at_call 17; refine (szCellS_any _ _ _ _ _ (by omega) (by omega) (by assumption)).mono ?_; rintro e wn ⟨rfl, rfl⟩)
    have hlen : (turnsR l0).length ≤ 1048576 := by have := turnsR_len l0; omega
    have hlenm := Lib.hid (show ∀ r ∈ turnsR l0, r.length ≤ 1048576 from turnsR_mem l0)
    have htot : totC (turnsR l0) ≤ 1048576 := turnsR_tot l0
    go_wp2_with fail
    (refine (toCellS_any A0 c0 l0 _ b0 (hr0'.out.below (bl_trans hB (by go_grown)))).mono ?_; rintro e w1 ⟨v1, rfl, o1, hb1⟩; have s1 := (bl_trans (w := w) (by go_grown) hb1).size; replace hB := bl_trans (bl_trans hB (by go_grown)) hb1; obtain ⟨⟨B1, d1, rfl⟩, _⟩ := id o1; have F1 := Lib.hid (o1.in_ (bl_start (w := w) (by go_grown))); clear o1; clear hb1)
    go_wp2_with fail
    (refine (TurnsOfShape_s _ _ _ _ _ rfl b0 (F1.out.rd.below (by go_grown))).mono ?_; rintro e w2 ⟨v2, rfl, o2, hb2⟩; have s2 := (bl_trans (w := w1) (by go_grown) hb2).size; replace hB := bl_trans (bl_trans hB (by go_grown)) hb2; replace F1 := Lib.hid (F1.out.bel (bl_trans (by go_grown) hb2)); obtain ⟨⟨B2, d2, rfl⟩, _⟩ := id o2; have F2 := Lib.hid o2.rd; have hW := Below.refl w2.heap.size w2; clear o2; clear hb2)
    clear F1
    go_wp2_with fail
    (refine (toCellS_any A0 c0 l0 _ b0 (hr0'.out.below (bl_trans hB (by go_grown)))).mono ?_; rintro e w3 ⟨v3, rfl, o3, hb3⟩; have s3 := (bl_trans (w := w2) (by go_grown) hb3).size; replace hB := bl_trans (bl_trans hB (by go_grown)) hb3; obtain ⟨⟨B3, d3, rfl⟩, _⟩ := id o3; have F3 := Lib.hid (o3.in_ (bl_start (w := w2) (by go_grown))); clear o3; replace hW := bl_trans (bl_trans hW (by go_grown)) hb3; clear hb3)
    go_wp2_with fail
    (refine (TurnsOfShape_i _ _ _ _ _ rfl b0 (F3.out.rd.below (by go_grown))).mono ?_; rintro e w4 ⟨v4, rfl, o4, hb4⟩; have s4 := (bl_trans (w := w3) (by go_grown) hb4).size; replace hB := bl_trans (bl_trans hB (by go_grown)) hb4; obtain ⟨⟨B4, d4, rfl⟩, _⟩ := id o4; have F4 := Lib.hid (o4.wide (bl_start (w := w3) (by go_grown)) (Nat.le_refl _)); clear o4; replace F3 := Lib.hid (F3.out.bel (bl_trans (by go_grown) hb4)); replace hW := bl_trans (bl_trans hW (by go_grown)) hb4; clear hb4)
    go_wp2_with fail
    (refine (eqCellSS_any _ _ _ _ _ _ _ _ _ rfl rfl hlen hlenm.out (F4.out.rd.below (by go_grown)) (F2.out.below (bl_trans hW (by go_grown)))).mono ?_; rintro e w5 ⟨rfl, hb5⟩; have s5 := (bl_trans (w := w4) (by go_grown) hb5).size; replace hB := bl_trans (bl_trans hB (by go_grown)) hb5; replace F3 := Lib.hid (F3.out.bel (bl_trans (by go_grown) hb5)); replace F4 := Lib.hid (F4.out.bel (bl_trans (by go_grown) hb5)); replace hW := bl_trans (bl_trans hW (by go_grown)) hb5; clear hb5)
    go_wp2_with fail
    (refine (toCellS_any A0 c0 l0 _ b0 (hr0'.out.below (bl_trans hB (by go_grown)))).mono ?_; rintro e w6 ⟨v6, rfl, o6, hb6⟩; have s6 := (bl_trans (w := w5) (by go_grown) hb6).size; replace hB := bl_trans (bl_trans hB (by go_grown)) hb6; obtain ⟨⟨B6, d6, rfl⟩, _⟩ := id o6; have F6 := Lib.hid (o6.in_ (bl_start (w := w5) (by go_grown))); clear o6; replace F3 := Lib.hid (F3.out.bel (bl_trans (by go_grown) hb6)); replace F4 := Lib.hid (F4.out.bel (bl_trans (by go_grown) hb6)); replace hW := bl_trans (bl_trans hW (by go_grown)) hb6; clear hb6)
    go_wp2_with fail
    (refine (eqCellS_any _ _ _ _ _ _ _ b0 (F3.out.rd.below (by go_grown)) (F6.out.rd.below (by go_grown))).mono ?_; rintro e w7 ⟨rfl, hb7⟩; have s7 := (bl_trans (w := w6) (by go_grown) hb7).size; replace hB := bl_trans (bl_trans hB (by go_grown)) hb7; replace F3 := Lib.hid (F3.out.bel (bl_trans (by go_grown) hb7)); replace F4 := Lib.hid (F4.out.bel (bl_trans (by go_grown) hb7)); replace F6 := Lib.hid (F6.out.bel (bl_trans (by go_grown) hb7)); replace hW := bl_trans (bl_trans hW (by go_grown)) hb7; clear hb7)
    clear F6
    go_wp2_with fail
    (refine (markCellSB_in _ _ _ _ _ _ _ _ b0 (by omega) (by omega)  (F3.out.bel (by go_grown))).mono ?_; rintro e w8 ⟨rfl, m8, hb8⟩; have s8 := (bl_trans (w := w7) (by go_grown) (Below.refl _ _)).size; have z8 := hb8.size; have s8 : w7.heap.size ≤ w8.heap.size := (by have := (bl_start (w := w7) (by go_grown)); omega); replace hB := hb8.below (bl_trans hB (by go_grown)) (by omega) (by omega); replace F4 := Lib.hid ((F4.out.bel (by go_grown)).loc (Same.of_btw hb8 (by omega))); replace hW := hb8.below (bl_trans hW (by go_grown)) (by omega) (by omega); replace F3 := Lib.hid m8; clear m8 hb8)
    go_wp2_with fail
    (refine (eqCellSS_any _ _ _ _ _ _ _ _ _ rfl rfl hlen hlenm.out (F4.out.rd.below (by go_grown)) (F2.out.below (bl_trans hW (by go_grown)))).mono ?_; rintro e w9 ⟨rfl, hb9⟩; have s9 := (bl_trans (w := w8) (by go_grown) hb9).size; replace hB := bl_trans (bl_trans hB (by go_grown)) hb9; replace F3 := Lib.hid (F3.out.bel (bl_trans (by go_grown) hb9)); replace F4 := Lib.hid (F4.out.bel (bl_trans (by go_grown) hb9)); replace hW := bl_trans (bl_trans hW (by go_grown)) hb9; clear hb9)
    go_wp2_with fail
    (refine (markCellSS_in _ _ _ _ _ _ _ _ hlen (by omega) (by omega) hlenm.out (F4.out.bel (by go_grown))).mono ?_; rintro e w10 ⟨rfl, m10, hb10⟩; have s10 := (bl_trans (w := w9) (by go_grown) (Below.refl _ _)).size; have z10 := hb10.size; have s10 : w9.heap.size ≤ w10.heap.size := (by have := (bl_start (w := w9) (by go_grown)); omega); replace hB := hb10.below (bl_trans hB (by go_grown)) (by omega) (by omega); replace F3 := Lib.hid ((F3.out.bel (by go_grown)).loc (Same.of_btw hb10 (by omega))); replace hW := hb10.below (bl_trans hW (by go_grown)) (by omega) (by omega); replace F4 := Lib.hid m10; clear m10 hb10)
    go_wp2_with fail
    (refine (heldCellSS_in _ _ _ _ _ _ rfl hlen (by omega) (by omega) hlenm.out (F4.out.rd.below (by go_grown))).mono ?_; rintro e wh ⟨rfl, rfl⟩)
    go_wp2_with fail
    (refine (toCellS_any A0 c0 l0 _ b0 (hr0'.out.below (bl_trans hB (by go_grown)))).mono ?_; rintro e w11 ⟨v11, rfl, o11, hb11⟩; have s11 := (bl_trans (w := w10) (by go_grown) hb11).size; replace hB := bl_trans (bl_trans hB (by go_grown)) hb11; obtain ⟨⟨B11, d11, rfl⟩, _⟩ := id o11; have F11 := Lib.hid (o11.in_ (bl_start (w := w10) (by go_grown))); clear o11; replace F3 := Lib.hid (F3.out.bel (bl_trans (by go_grown) hb11)); replace F4 := Lib.hid (F4.out.bel (bl_trans (by go_grown) hb11)); replace hW := bl_trans (bl_trans hW (by go_grown)) hb11; clear hb11)
    go_wp2_with fail
    (refine (TurnsOfShape_i _ _ _ _ _ rfl b0 (F11.out.rd.below (by go_grown))).mono ?_; rintro e w12 ⟨v12, rfl, o12, hb12⟩; have s12 := (bl_trans (w := w11) (by go_grown) hb12).size; replace hB := bl_trans (bl_trans hB (by go_grown)) hb12; obtain ⟨⟨B12, d12, rfl⟩, _⟩ := id o12; have F12 := Lib.hid (o12.wide (bl_start (w := w11) (by go_grown)) (Nat.le_refl _)); clear o12; replace F3 := Lib.hid (F3.out.bel (bl_trans (by go_grown) hb12)); replace F4 := Lib.hid (F4.out.bel (bl_trans (by go_grown) hb12)); replace F11 := Lib.hid (F11.out.bel (bl_trans (by go_grown) hb12)); replace hW := bl_trans (bl_trans hW (by go_grown)) hb12; clear hb12)
    clear F11
    go_wp2_with fail
    (refine (eqCellSS_any _ _ _ _ _ _ _ _ _ rfl rfl hlen hlenm.out (F12.out.rd.below (by go_grown)) (F2.out.below (bl_trans hW (by go_grown)))).mono ?_; rintro e w13 ⟨rfl, hb13⟩; have s13 := (bl_trans (w := w12) (by go_grown) hb13).size; replace hB := bl_trans (bl_trans hB (by go_grown)) hb13; replace F3 := Lib.hid (F3.out.bel (bl_trans (by go_grown) hb13)); replace F4 := Lib.hid (F4.out.bel (bl_trans (by go_grown) hb13)); replace F12 := Lib.hid (F12.out.bel (bl_trans (by go_grown) hb13)); replace hW := bl_trans (bl_trans hW (by go_grown)) hb13; clear hb13)
    go_wp2_with fail
    (refine (heldCellSS_in _ _ _ _ _ _ rfl hlen (by omega) (by omega) hlenm.out (F4.out.rd.below (by go_grown))).mono ?_; rintro e wh ⟨rfl, rfl⟩)
    go_wp2_with fail
    go_ret
    exact ⟨rfl, (by first | (go_grown; done) | exact bl_trans hB (by go_grown))⟩
end Go.Proofs.Ythclolooidnniaa

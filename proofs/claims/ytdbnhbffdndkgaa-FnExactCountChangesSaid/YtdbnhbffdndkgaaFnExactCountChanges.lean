/-
  The walk of the law FnExactCountChanges: it returns true for every two lists of dominoes; no condition.
-/
import Derived.Test.YtdbnhbffdndkgaaDoms
namespace Go.Proofs.Ytdbnhbffdndkgaa
open Go.ChangeShapes Go.WideShapes Go.ChangeAt Go.RowKit Go.Deep

set_option maxHeartbeats 1000000 in
theorem walk_FnExactCountChanges (A : Option Addr) (c : Nat) (l : List Dm) (B : Option Addr) (d : Nat) (m : List Dm) (w : World) (hr : RdD w A l) (hl : l.length ≤ maxLen) (hs : RdD w B m) (hm : m.length ≤ maxLen) :
    Calls Try.prog 11 #[.slice A l.length c, .slice B m.length d] w fun e w' => e = .returned (.bool true) ∧ Below w.heap.size w w' := by
  have z1 := szSub_le 1048576 l.length (by omega) (by omega)
  have z2 := szSub_le (szSub 1048576 l.length) m.length z1.1 z1.2
  by_cases h1 : szSub 1048576 l.length < 0
  · go_enter Try.func11, Try.ntmps11
    go_wp2_with (go_at_call 44; refine (szDominoS_any _ _ _ _ _ (by omega) (by omega) (by assumption)).mono ?_; rintro e wn ⟨rfl, rfl⟩)
    go_ret
    exact ⟨rfl, Below.refl _ _⟩
  · by_cases h2 : szSub (szSub 1048576 l.length) m.length < 0
    · go_enter Try.func11, Try.ntmps11
      go_wp2_with (go_at_call 44; refine (szDominoS_any _ _ _ _ _ (by omega) (by omega) (by assumption)).mono ?_; rintro e wn ⟨rfl, rfl⟩)
      go_ret
      exact ⟨rfl, Below.refl _ _⟩
    · have f1 := szSub_fits (left := 1048576) (n := l.length) (by omega)
      have f2 := szSub_fits (left := szSub 1048576 l.length) (n := m.length) (by omega)
      have b1 : l.length ≤ 1048576 := by omega
      have b2 : m.length ≤ 1048576 := by omega
      have hr' := Lib.hid hr
      have hs' := Lib.hid hs
      clear hr hs f1 f2
      go_enter Try.func11, Try.ntmps11
      have hB := Below.refl w.heap.size w
      go_wp2_with (go_at_call 44; refine (szDominoS_any _ _ _ _ _ (by omega) (by omega) (by assumption)).mono ?_; rintro e wn ⟨rfl, rfl⟩)
      (refine (toDominoS_any A c l _ b1 (hr'.out.below hB)).mono ?_; rintro e wn ⟨v, rfl, ⟨⟨A1, c1, rfl⟩, o1, p1⟩, hbn⟩; replace hB := bl_trans (bl_trans hB (by go_grown)) hbn; have R1 := Lib.hid (OwD.rd ⟨⟨A1, c1, rfl⟩, o1, p1⟩); clear o1 p1; clear hbn)
      go_wp2_with fail
      (refine (toDominoS_any B d m _ b2 (hs'.out.below hB)).mono ?_; rintro e wn ⟨v, rfl, ⟨⟨A2, c2, rfl⟩, o2, p2⟩, hbn⟩; replace hB := bl_trans (bl_trans hB (by go_grown)) hbn; replace R1 := Lib.hid (R1.out.below hbn); have R2 := Lib.hid (OwD.rd ⟨⟨A2, c2, rfl⟩, o2, p2⟩); clear o2 p2; clear hbn)
      go_wp2_with fail
      (refine (CountChanges_s A1 A2 c1 c2 l m _ b1 b2 R1.out R2.out).mono ?_; rintro e wn ⟨rfl, hbn⟩; replace hB := bl_trans (bl_trans hB (by go_grown)) hbn; clear hbn)
      go_wp2_with fail
      (refine (toDominoS_any A c l _ b1 (hr'.out.below hB)).mono ?_; rintro e wn ⟨v, rfl, ⟨⟨A3, c3, rfl⟩, o3, p3⟩, hbn⟩; replace hB := bl_trans (bl_trans hB (by go_grown)) hbn; have R3 := Lib.hid (OwD.rd ⟨⟨A3, c3, rfl⟩, o3, p3⟩); clear o3 p3; clear hbn)
      go_wp2_with fail
      (refine (toDominoS_any B d m _ b2 (hs'.out.below hB)).mono ?_; rintro e wn ⟨v, rfl, ⟨⟨A4, c4, rfl⟩, o4, p4⟩, hbn⟩; replace hB := bl_trans (bl_trans hB (by go_grown)) hbn; replace R3 := Lib.hid (R3.out.below hbn); have R4 := Lib.hid (OwD.rd ⟨⟨A4, c4, rfl⟩, o4, p4⟩); clear o4 p4; clear hbn)
      go_wp2_with fail
      (refine (CountChanges_i A3 A4 c3 c4 l m _ b1 b2 R3.out R4.out).mono ?_; rintro e wn ⟨rfl, hbn⟩; replace hB := bl_trans (bl_trans hB (by go_grown)) hbn; replace R3 := Lib.hid (R3.out.below hbn); replace R4 := Lib.hid (R4.out.below hbn); clear hbn)
      go_wp2_with fail
      (refine (toDominoS_any A c l _ b1 (hr'.out.below hB)).mono ?_; rintro e wn ⟨v, rfl, ⟨⟨A5, c5, rfl⟩, o5, p5⟩, hbn⟩; replace hB := bl_trans (bl_trans hB (by go_grown)) hbn; replace R3 := Lib.hid (R3.out.below hbn); replace R4 := Lib.hid (R4.out.below hbn); have R5 := Lib.hid (OwD.rd ⟨⟨A5, c5, rfl⟩, o5, p5⟩); clear o5 p5; clear hbn)
      go_wp2_with fail
      (refine (eqDominoS_any A3 A5 c3 c5 l l _ b1 R3.out R5.out).mono ?_; rintro e wn ⟨rfl, hbn⟩; replace hB := bl_trans (bl_trans hB (by go_grown)) hbn; replace R4 := Lib.hid (R4.out.below hbn); clear hbn)
      go_wp2_with fail
      (refine (toDominoS_any B d m _ b2 (hs'.out.below hB)).mono ?_; rintro e wn ⟨v, rfl, ⟨⟨A6, c6, rfl⟩, o6, p6⟩, hbn⟩; replace hB := bl_trans (bl_trans hB (by go_grown)) hbn; replace R4 := Lib.hid (R4.out.below hbn); have R6 := Lib.hid (OwD.rd ⟨⟨A6, c6, rfl⟩, o6, p6⟩); clear o6 p6; clear hbn)
      go_wp2_with fail
      (refine (eqDominoS_any A4 A6 c4 c6 m m _ b2 R4.out R6.out).mono ?_; rintro e wn ⟨rfl, hbn⟩; replace hB := bl_trans (bl_trans hB (by go_grown)) hbn; clear hbn)
      go_wp2_with fail
      go_ret
      exact ⟨rfl, (by first | (go_grown; done) | exact bl_trans hB (by go_grown))⟩
end Go.Proofs.Ytdbnhbffdndkgaa

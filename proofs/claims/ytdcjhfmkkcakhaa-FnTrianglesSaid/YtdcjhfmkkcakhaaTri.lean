/-
  Contracts of IsTriangle (both) and isAbove: what each returns, as a function of the rows; nothing that was there is written; at most 1048576 numbers.
-/
import Derived.Test.YtdcjhfmkkcakhaaIntSS
import Derived.IntWalk
namespace Go.Proofs.Ytdcjhfmkkcakhaa
open Go.ChangeShapes Go.WideShapes Go.ChangeAt Go.RowKit Go.Deep
set_option linter.unusedVariables false

def rAt (t : List (List Int)) (k : Nat) : List Int := (t[k]?).getD []
theorem rAt_eq {t : List (List Int)} {k : Nat} {l : List Int} (h : t[k]? = some l) : rAt t k = l := by simp [rAt, h]
def abvAt (p r : List Int) (i : Nat) : Bool := decide (iAt r i ≤ iAt p i) && decide (iAt p i ≤ iAt r (i + 1))
def aboveB (p r : List Int) : Bool := allFrom (abvAt p r) 0 p.length
def triAt (t : List (List Int)) (k : Nat) : Bool := decide ((rAt t k).length = k + 1) && strictB (rAt t k) 1 t.length && (decide (k = 0) || aboveB (rAt t (k - 1)) (rAt t k))
def isTri (t : List (List Int)) : Bool := inB t.length 1 5 && allFrom (triAt t) 0 t.length
set_option maxHeartbeats 1000000 in
theorem isAbove_any (A B : Option Addr) (N M c d : Nat) (p r : List Int) (w : World) (hN : N = p.length) (hM : M = r.length) (hNM : M = N + 1) (hl : N ≤ 1048576) (hr : RdI w A p) (hs : RdI w B r) :
    Calls Try.prog 148 #[.slice A N c, .slice B M d] w fun e w' => e = .returned (.bool (aboveB p r)) ∧ w = w' := by
  have HN := Lib.hid hN
  have HM := Lib.hid hM
  have HNM := Lib.hid hNM
  have Hr := Lib.hid hr
  have Hs := Lib.hid hs
  have hlt1 : N < M := by omega
  have hgo := Lib.hid (show aboveB p r = allFrom (abvAt p r) 0 N by rw [aboveB, hN])
  clear hN hM hNM hr hs
  go_enter Try.func148, Try.ntmps148
  go_wp2
  go_loop [9] (fun q => ∃ k : Nat, k ≤ N ∧ q = .int .i64 k ∧ Hid (aboveB p r = allFrom (abvAt p r) k N)) (fun q => N - (intOf q).toNat)
  case atStart => exact ⟨0, by omega, rfl, hgo⟩
  case round =>
    obtain ⟨k, hk, rfl, hall⟩ := hrel
    by_cases hlt : k < N
    · obtain ⟨b, off, x, rfl, hb, hx, _, _, cx⟩ := Hr.out.at_ (k := k) (by have := HN.out; omega)
      obtain ⟨b2, off2, y, z, rfl, hb2, hy, hz, _, _, cy, cz⟩ := Hs.out.at2 (j := k) (k := k + 1) (by have := HM.out; have := HNM.out; omega) (by have := HM.out; have := HNM.out; omega)
      have h1 := allFrom_step (f := abvAt p r) hlt
      have h2 : abvAt p r k = (decide (y ≤ x) && decide (x ≤ z)) := by rw [abvAt, iAt_eq hx, iAt_eq hy, iAt_eq hz]
      have H := Lib.hid (show aboveB p r = (decide (y ≤ x) && decide (x ≤ z) && allFrom (abvAt p r) (k + 1) N) by rw [hall.out, h1, h2])
      have hk1 : k < M := by omega
      have hk2 : k + 1 < M := by omega
      clear hx hy hz h1 h2 hall
      by_cases hxy : x < y
      · have hxy2 : ¬ y ≤ x := by omega
        go_wp2
        go_ret
        exact ⟨ret_bool (by rw [H.out]; simp [show ¬ y ≤ x by omega]), rfl⟩
      · have hxy2 : y ≤ x := by omega
        by_cases hxz : z < x
        · have hxz2 : ¬ x ≤ z := by omega
          go_wp2
          go_ret
          exact ⟨ret_bool (by rw [H.out]; simp [show ¬ x ≤ z by omega]), rfl⟩
        · have hxz2 : x ≤ z := by omega
          go_wp2
          go_round
          case rel => exact ⟨k + 1, by omega, by go_num, Lib.hid (by rw [H.out]; simp [show y ≤ x by omega, show x ≤ z by omega])⟩
          case measure => simp [intOf]; omega
    · obtain rfl : k = N := by omega
      have H := Lib.hid (show aboveB p r = true by rw [hall.out, allFrom_end])
      clear hall
      go_wp2
      go_ret
      exact ⟨ret_bool (by rw [H.out]), rfl⟩
set_option maxRecDepth 100000 in
set_option maxHeartbeats 2000000 in
theorem IsTriangle_i (A : Option Addr) (N c : Nat) (t : List (List Int)) (w : World) (hN : N = t.length) (hl : N ≤ 1048576) (hll : ∀ l ∈ t, l.length ≤ 1048576) (hr : RdII w A t) :
    Calls Try.prog 65 #[.slice A N c] w fun e w' => e = .returned (.bool (isTri t)) ∧ Below w.heap.size w w' := by
  have HN := Lib.hid hN
  have Hr := Lib.hid hr
  have Hll := Lib.hid hll
  have hB := Below.refl w.heap.size w
  cases h1 : inB (N : Int) 1 5
  · have hv := Lib.hid (show isTri t = false by rw [isTri, ← hN, h1]; rfl)
    clear hN hr hll
    go_enter Try.func65, Try.ntmps65
    go_wp2_with (go_at_call 89; refine (within_any _ _ _ _).mono ?_; rintro e wn ⟨rfl, rfl⟩)
    go_ret
    exact ⟨ret_bool (by rw [hv.out]), hB⟩
  · have i1 := inB_true.1 h1
    have hgo := Lib.hid (show isTri t = allFrom (triAt t) 0 N by rw [isTri, ← hN, h1, Bool.true_and])
    clear hN hr hll
    go_enter Try.func65, Try.ntmps65
    go_wp2_with (go_at_call 89; refine (within_any _ _ _ _).mono ?_; rintro e wn ⟨rfl, rfl⟩)
    go_loopw [13] (fun q wr => ∃ k : Nat, k ≤ N ∧ q = .int .i64 k ∧ Hid (isTri t = allFrom (triAt t) k N ∧ (0 < k → (rAt t (k - 1)).length = k)) ∧ Below w.heap.size w wr) (fun q _ => N - (intOf q).toNat)
    case atStart => exact ⟨0, by omega, rfl, Lib.hid ⟨hgo.out, by omega⟩, hB⟩
    case round =>
      obtain ⟨k, hk, rfl, hall, hB'⟩ := hrel
      have hB := hB'
      clear hB'
      by_cases hlt : k < N
      · obtain ⟨b, off, l, A1, c1, rfl, hb, hx, _, hrl, hc⟩ := (Hr.out.below hB).at_ (k := k) (by have := HN.out; omega)
        have hll : l.length ≤ 1048576 := Hll.out l (List.mem_of_getElem? hx)
        obtain ⟨L, hL⟩ : ∃ L, L = l.length := ⟨_, rfl⟩
        rw [← hL] at hc hll
        have hst := allFrom_step (f := triAt t) hlt
        have htr : triAt t k = (decide (L = k + 1) && strictB l 1 N && (decide (k = 0) || aboveB (rAt t (k - 1)) l)) := by rw [triAt, rAt_eq hx, ← hL, HN.out]
        have H := Lib.hid (show isTri t = (decide (L = k + 1) && strictB l 1 N && (decide (k = 0) || aboveB (rAt t (k - 1)) l) && allFrom (triAt t) (k + 1) N) by rw [hall.out.1, hst, htr])
        have Hk1 := Lib.hid (show 0 < k + 1 → L = k + 1 → (rAt t (k + 1 - 1)).length = k + 1 by intro _ e; rw [Nat.add_sub_cancel, rAt_eq hx, ← hL, e])
        have HL := Lib.hid hL
        have Hrl := Lib.hid hrl
        clear hx hrl hL hst htr
        by_cases h1 : L = k + 1
        · subst h1
          cases h2 : strictB l 1 N
          · have H2 := Lib.hid h2
            go_wp2_with (go_at_call 147; refine (isStrict_n A1 (k + 1) c1 l 1 N _ HL.out hll (Hrl.out.below (by go_grown))).mono ?_; rintro e wn ⟨rfl, hbn⟩; have hSz := bl_sz (bl_trans hB (by go_grown)) hbn; replace hB := bl_trans (bl_trans hB (by go_grown)) hbn; clear hbn)
            go_ret
            exact ⟨ret_bool (by rw [H.out, H2.out]; simp), hB⟩
          · by_cases h0 : k = 0
            · subst h0
              rw [Nat.add_zero] at hc
              have H2 := Lib.hid h2
              go_wp2_with (go_at_call 147; refine (isStrict_n A1 (0 + 1) c1 l 1 N _ HL.out hll (Hrl.out.below (by go_grown))).mono ?_; rintro e wn ⟨rfl, hbn⟩; have hSz := bl_sz (bl_trans hB (by go_grown)) hbn; replace hB := bl_trans (bl_trans hB (by go_grown)) hbn; clear hbn)
              go_roundw
              case rel => exact ⟨1, by omega, by go_num, Lib.hid ⟨by rw [H.out, H2.out]; simp, fun _ => Hk1.out (by omega) (by simp)⟩, hB⟩
              case measure => simp [intOf]; omega
            · obtain ⟨j, rfl⟩ : ∃ j, k = j + 1 := ⟨k - 1, by omega⟩
              obtain ⟨b2, off2, p, A2, c2, hA2, hb2, hp, _, hrp, hcp⟩ := (Hr.out.below hB).at_ (k := j) (by have := HN.out; omega)
              injection hA2 with hA2
              injection hA2 with e1 e2
              subst e1; subst e2
              have hpl : j + 1 = p.length := by have := hall.out.2 (by omega); rw [Nat.add_sub_cancel, rAt_eq hp] at this; exact this.symm
              have Hrp := Lib.hid hrp
              have Hpe := Lib.hid (rAt_eq hp)
              rw [← hpl] at hcp
              have Hpl := Lib.hid hpl
              have hd : decide ((0 : Int) < ((j + 1 : Nat) : Int)) = true := by simp <;> omega
              clear hp hrp hpl h0
              cases h3 : aboveB p l
              · have H2 := Lib.hid h2
                have H3 := Lib.hid h3
                go_wp2_with (first | (go_at_call 147; refine (isStrict_n A1 (j + 1 + 1) c1 l 1 N _ HL.out hll (Hrl.out.below (by go_grown))).mono ?_; rintro e wn ⟨rfl, hbn⟩; have hSz := bl_sz (bl_trans hB (by go_grown)) hbn; replace hB := bl_trans (bl_trans hB (by go_grown)) hbn; have hcp2 := ((bl_trans (w := wr) (by go_grown) hbn).cell (p := ⟨b, off + j, none⟩) hb2).trans hcp; have hsw := Lib.hid (bl_trans (w := wr) (by go_grown) hbn); clear hbn) | (go_at_call 148; refine (isAbove_any A2 A1 (j + 1) (j + 1 + 1) c2 c1 p l _ Hpl.out HL.out rfl (by omega) (Hrp.out.below (bl_trans hsw.out (by go_grown))) (Hrl.out.below (bl_trans hsw.out (by go_grown)))).mono ?_; rintro e wn ⟨rfl, rfl⟩))
                go_ret
                exact ⟨ret_bool (by rw [H.out, Nat.add_sub_cancel, Hpe.out, H3.out]; simp), hB⟩
              · have H2 := Lib.hid h2
                have H3 := Lib.hid h3
                go_wp2_with (first | (go_at_call 147; refine (isStrict_n A1 (j + 1 + 1) c1 l 1 N _ HL.out hll (Hrl.out.below (by go_grown))).mono ?_; rintro e wn ⟨rfl, hbn⟩; have hSz := bl_sz (bl_trans hB (by go_grown)) hbn; replace hB := bl_trans (bl_trans hB (by go_grown)) hbn; have hcp2 := ((bl_trans (w := wr) (by go_grown) hbn).cell (p := ⟨b, off + j, none⟩) hb2).trans hcp; have hsw := Lib.hid (bl_trans (w := wr) (by go_grown) hbn); clear hbn) | (go_at_call 148; refine (isAbove_any A2 A1 (j + 1) (j + 1 + 1) c2 c1 p l _ Hpl.out HL.out rfl (by omega) (Hrp.out.below (bl_trans hsw.out (by go_grown))) (Hrl.out.below (bl_trans hsw.out (by go_grown)))).mono ?_; rintro e wn ⟨rfl, rfl⟩))
                go_roundw
                case rel => exact ⟨j + 1 + 1, by omega, by go_num, Lib.hid ⟨by rw [H.out, Nat.add_sub_cancel, Hpe.out, H3.out, H2.out]; simp, fun _ => Hk1.out (by omega) (by simp)⟩, hB⟩
                case measure => simp [intOf]; omega
        · have hne : ((L : Int) != (k : Int) + 1) = true := by simp; omega
          have H1 := Lib.hid h1
          clear h1
          go_wp2_with fail
          go_ret
          exact ⟨ret_bool (by rw [H.out]; simp [H1.out]), hB⟩
      · obtain rfl : k = N := by omega
        have H := Lib.hid (show isTri t = true by rw [hall.out.1, allFrom_end])
        clear hall
        go_wp2_with fail
        go_ret
        exact ⟨ret_bool (by rw [H.out]), hB⟩
end Go.Proofs.Ytdcjhfmkkcakhaa

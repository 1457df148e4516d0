/-
  Contracts of FitShape (both) and indexOf: what each returns, as a function of its arguments; nothing that was there is written; at most 1048576 cells.
-/
import Derived.Test.YtdcjhfmkkcakhaaFit
namespace Go.Proofs.Ytdcjhfmkkcakhaa
open Go.ChangeShapes Go.WideShapes Go.ChangeAt Go.RowKit Go.Deep
set_option linter.unusedVariables false

def findI : List Int → Int → Int → Int
  | [], _, _ => -1
  | e :: l, d, k => if e = d then k else findI l d (k + 1)
theorem findI_neg (d : Int) : ∀ (l : List Int) (k : Int), 0 ≤ k → (0 ≤ findI l d k ↔ d ∈ l)
  | [], k, h => by simp [findI]
  | e :: l, k, h => by
    have ih := findI_neg d l (k + 1) (by omega)
    unfold findI
    by_cases he : e = d
    · simp [he, h]
    · rw [if_neg he, ih, List.mem_cons]
      constructor
      · exact fun h => .inr h
      · rintro (h | h)
        · exact absurd h.symm he
        · exact h
set_option maxHeartbeats 1000000 in
theorem indexOf_any (A : Option Addr) (N c : Nat) (l : List Int) (d : Int) (w : World) (hN : N = l.length) (hl : N ≤ 1048576) (hr : RdI w A l) :
    Calls Try.prog 159 #[.slice A N c, .int .i64 d] w fun e w' => e = .returned (.int .i64 (findI l d 0)) ∧ w = w' := by
  have HN := Lib.hid hN
  have hr' := Lib.hid hr
  clear hN hr
  go_enter Try.func159, Try.ntmps159
  go_wp2_with fail
  go_loop [9] (fun i => ∃ k : Nat, k ≤ N ∧ i = .int .i64 k ∧ Hid (findI l d 0 = findI (l.drop k) d k)) (fun i => N - (intOf i).toNat)
  case atStart => exact ⟨0, by omega, rfl, Lib.hid rfl⟩
  case round =>
    obtain ⟨k, hk, rfl, H⟩ := hrel
    by_cases hlt : k < N
    · obtain ⟨b, off, x, rfl, hbl, hv, hd, g, c0⟩ := hr'.out.at_ (k := k) (by have := HN.out; omega)
      have hs : findI l d 0 = if x = d then (k : Int) else findI (l.drop (k + 1)) d (k + 1) := by rw [H.out, hd, findI]
      have Hs := Lib.hid hs
      clear hv hd hs
      by_cases h : x = d
      · have hbe : (x == d) = true := by simpa using h
        have H' := Lib.hid h
        clear h
        go_wp2_with fail
        go_ret
        exact ⟨ret_int (by rw [Hs.out, if_pos H'.out]), rfl⟩
      · have hbe : (x == d) = false := by simpa using h
        have H' := Lib.hid h
        clear h
        go_wp2_with fail
        go_round
        case rel => exact ⟨k + 1, by omega, by go_num, Lib.hid (by rw [Hs.out, if_neg H'.out]; rfl)⟩
        case measure => simp [intOf]; omega
    · have h1 : l.drop k = [] := List.drop_eq_nil_of_le (by have := HN.out; omega)
      have H2 := Lib.hid (show findI l d 0 = -1 by rw [H.out, h1]; rfl)
      clear h1
      go_wp2_with fail
      go_ret
      exact ⟨ret_int (by rw [H2.out]), rfl⟩
def fitShape (l : List Cl) : Bool := l.all okC && (decide (0 < l.length) && shapeOk (fitL l))
def fitShapeL (l : List Cl) : List Cl := if fitShape l then fitL l else []
theorem shapeOk_len {l : List Cl} (h : shapeOk l = true) : 1 ≤ l.length ∧ l.length ≤ 5 := by
  unfold shapeOk at h
  rw [Bool.and_eq_true] at h
  have := inB_true.1 h.1
  omega
theorem fitShapeL_len (l : List Cl) : (fitShapeL l).length ≤ 5 := by
  unfold fitShapeL
  split
  · rename_i h
    unfold fitShape at h
    simp only [Bool.and_eq_true] at h
    exact (shapeOk_len h.2.2).2
  · simp
theorem fitShape_no {l : List Cl} (h : inB l.length 1 5 = false) : fitShape l = false := by
  have : shapeOk (fitL l) = false := by rw [shapeOk, fitL_len, h]; rfl
  rw [fitShape, this, Bool.and_false, Bool.and_false]
theorem ok_near {l : List Cl} (h : l.all okC = true) : Near l ∧ ∀ d ∈ l, d.1 - lowX l ≤ 7 := by
  have h1 : ∀ d ∈ l, cellOk d.1 d.2 = true := fun d hd => List.all_eq_true.1 h d hd
  have hn : Near l := fun d hd => by have := cellOk_iff.1 (h1 d hd); omega
  refine ⟨hn, fun d hd => ?_⟩
  have h2 := cellOk_iff.1 (h1 d hd)
  have h3 : 0 ≤ lowX l := by
    have : ∀ c ∈ l, 0 ≤ c.1 ∧ c.1 ≤ 7 := fun c hc => by have := cellOk_iff.1 (h1 c hc); omega
    have h0 : 0 ≤ (l.headD (0, 0)).1 ∧ (l.headD (0, 0)).1 ≤ 7 := by
      cases l with
      | nil => simp
      | cons c t => exact this c (by simp)
    exact (minF_rng Prod.fst l _ h0 this).1
  omega
theorem neg_idx {l : List Cl} : (-1 : Int) ∈ indicesL l ↔ l.all okC = false := by
  rw [indicesL, List.mem_map]
  constructor
  · rintro ⟨c, hc, e⟩
    rw [Bool.eq_false_iff]
    intro h
    have := List.all_eq_true.1 h c hc
    rw [idxI_ok this] at e
    omega
  · intro h
    rw [List.all_eq_false] at h
    obtain ⟨c, hc, e⟩ := h
    refine ⟨c, hc, ?_⟩
    have : cellOk c.1 c.2 = false := by simpa [okC] using e
    simp [idxI, cellIdx, this]
set_option maxRecDepth 100000 in
set_option maxHeartbeats 1000000 in
theorem FitShape_i (A : Option Addr) (N c : Nat) (l : List Cl) (w : World) (hN : N = l.length) (hl : N ≤ 1048576) (hr : RdC w A l) :
    Calls Try.prog 72 #[.slice A N c] w fun e w' => ∃ v, e = .returned (.tuple #[v, .bool (fitShape l)]) ∧ OwC w.heap.size w' v (fitShapeL l) ∧ Below w.heap.size w w' := by
  have HN := Lib.hid hN
  have hr' := Lib.hid hr
  have hil : (indicesL l).length ≤ 1048576 := by rw [indicesL_len, ← hN]; exact hl
  have hfl : (fitL l).length ≤ 1048576 := by rw [fitL_len, ← hN]; exact hl
  have hB := Below.refl w.heap.size w
  cases c1 : inB N 1 5
  · have hv := Lib.hid (show fitShape l = false from fitShape_no (by rw [← hN]; exact c1))
    have C1 := Lib.hid c1
    clear hN hr c1
    go_enter Try.func72, Try.ntmps72
    go_wp2_with (go_at_call 89; refine (within_any _ _ _ _).mono ?_; rintro e wn ⟨rfl, rfl⟩; rw [C1.out])
    go_ret2
    exact ⟨_, by rw [hv.out]; rfl, by rw [fitShapeL, hv.out]; exact OwC.nil_ _ _, hB⟩
  · have i1 := inB_true.1 c1
    have h0 : 0 < N := by omega
    have C1 := Lib.hid c1
    have hfi := findI_neg (-1) (indicesL l) 0 (Int.le_refl _)
    rw [neg_idx] at hfi
    cases c2 : l.all okC
    · have hge : 0 ≤ findI (indicesL l) (-1) 0 := hfi.2 c2
      have hv := Lib.hid (show fitShape l = false by rw [fitShape, c2]; rfl)
      clear hN hr c1 hfi c2
      go_enter Try.func72, Try.ntmps72
      go_wp2_with (first | (go_at_call 89; refine (within_any _ _ _ _).mono ?_; rintro e wn ⟨rfl, rfl⟩; rw [C1.out]) | (go_at_call 155; refine (indices_any A N c l _ HN.out hl (hr'.out.below hB)).mono ?_; rintro e wn ⟨v, rfl, o1, hbn⟩; have hSz := bl_sz (bl_trans hB (by go_grown)) hbn; replace hB := bl_trans (bl_trans hB (by go_grown)) hbn; obtain ⟨⟨A2, c2', rfl⟩, _⟩ := id o1; have O1 := Lib.hid o1.rd; clear o1; clear hbn) | (go_at_call 159; refine (indexOf_any A2 (indicesL l).length c2' (indicesL l) (-1) _ rfl hil O1.out).mono ?_; rintro e wn ⟨rfl, rfl⟩))
      go_ret2
      exact ⟨_, by rw [hv.out]; rfl, by rw [fitShapeL, hv.out]; exact OwC.nil_ _ _, hB⟩
    · have hge : ¬ 0 ≤ findI (indicesL l) (-1) 0 := fun h => by have := hfi.1 h; rw [c2] at this; cases this
      have hnr := ok_near c2
      have Hnr := Lib.hid hnr
      have hv := Lib.hid (show fitShape l = shapeOk (fitL l) by rw [fitShape, c2, ← hN, decide_eq_true h0]; rfl)
      clear hN hr c1 hfi c2 hnr
      cases c3 : shapeOk (fitL l)
      · have C3 := Lib.hid c3
        clear c3
        go_enter Try.func72, Try.ntmps72
        go_wp2_with (first | (go_at_call 89; refine (within_any _ _ _ _).mono ?_; rintro e wn ⟨rfl, rfl⟩; rw [C1.out]) | (go_at_call 155; refine (indices_any A N c l _ HN.out hl (hr'.out.below hB)).mono ?_; rintro e wn ⟨v, rfl, o1, hbn⟩; have hSz := bl_sz (bl_trans hB (by go_grown)) hbn; replace hB := bl_trans (bl_trans hB (by go_grown)) hbn; obtain ⟨⟨A2, c2', rfl⟩, _⟩ := id o1; have O1 := Lib.hid o1.rd; clear o1; clear hbn) | (go_at_call 159; refine (indexOf_any A2 (indicesL l).length c2' (indicesL l) (-1) _ rfl hil O1.out).mono ?_; rintro e wn ⟨rfl, rfl⟩) | (go_at_call 153; refine (fitted_any A N c l _ HN.out hl h0 Hnr.out.1 (hr'.out.below hB)).mono ?_; rintro e wn ⟨v, rfl, o2, hbn⟩; have hSz := bl_sz (bl_trans hB (by go_grown)) hbn; replace hB := bl_trans (bl_trans hB (by go_grown)) hbn; obtain ⟨⟨A3, c3', rfl⟩, _⟩ := id o2; have O2 := Lib.hid o2; clear o2; clear hbn) | (go_at_call 71; refine (ShapeOk_i A3 (fitL l).length c3' (fitL l) _ rfl hfl O2.out.rd).mono ?_; rintro e wn ⟨rfl, hbn⟩; have hSz := bl_sz (bl_trans hB (by go_grown)) hbn; replace hB := bl_trans (bl_trans hB (by go_grown)) hbn; rw [C3.out]; clear hbn))
        go_ret2
        exact ⟨_, by rw [hv.out, C3.out]; rfl, by rw [fitShapeL, hv.out, C3.out]; exact OwC.nil_ _ _, hB⟩
      · have C3 := Lib.hid c3
        clear c3
        go_enter Try.func72, Try.ntmps72
        go_wp2_with (first | (go_at_call 89; refine (within_any _ _ _ _).mono ?_; rintro e wn ⟨rfl, rfl⟩; rw [C1.out]) | (go_at_call 155; refine (indices_any A N c l _ HN.out hl (hr'.out.below hB)).mono ?_; rintro e wn ⟨v, rfl, o1, hbn⟩; have hSz := bl_sz (bl_trans hB (by go_grown)) hbn; replace hB := bl_trans (bl_trans hB (by go_grown)) hbn; obtain ⟨⟨A2, c2', rfl⟩, _⟩ := id o1; have O1 := Lib.hid o1.rd; clear o1; clear hbn) | (go_at_call 159; refine (indexOf_any A2 (indicesL l).length c2' (indicesL l) (-1) _ rfl hil O1.out).mono ?_; rintro e wn ⟨rfl, rfl⟩) | (go_at_call 153; refine (fitted_any A N c l _ HN.out hl h0 Hnr.out.1 (hr'.out.below hB)).mono ?_; rintro e wn ⟨v, rfl, o2, hbn⟩; have hSz := bl_sz (bl_trans hB (by go_grown)) hbn; replace hB := bl_trans (bl_trans hB (by go_grown)) hbn; obtain ⟨⟨A3, c3', rfl⟩, _⟩ := id o2; have O2 := Lib.hid (o2.mono hSz); clear o2; clear hbn) | (go_at_call 71; refine (ShapeOk_i A3 (fitL l).length c3' (fitL l) _ rfl hfl O2.out.rd).mono ?_; rintro e wn ⟨rfl, hbn⟩; have hSz := bl_sz (bl_trans hB (by go_grown)) hbn; replace hB := bl_trans (bl_trans hB (by go_grown)) hbn; rw [C3.out]; replace O2 := Lib.hid (O2.out.bel hbn); clear hbn))
        go_ret2
        exact ⟨_, by rw [hv.out, C3.out]; rfl, by rw [fitShapeL, hv.out, C3.out]; exact O2.out, hB⟩
end Go.Proofs.Ytdcjhfmkkcakhaa

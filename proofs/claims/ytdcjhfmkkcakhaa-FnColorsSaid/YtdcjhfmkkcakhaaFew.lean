/-
  Four colors are enough for dominoes that do not overlap (a plain law), and the contracts of FewestColors (both): what each returns, as a function of its arguments; nothing that was there is written; at most 1048576 dominoes.
-/
import Derived.Test.YtdcjhfmkkcakhaaSearch
namespace Go.Proofs.Ytdcjhfmkkcakhaa
open Go.ChangeShapes Go.WideShapes Go.ChangeAt Go.RowKit Go.Deep
set_option linter.unusedVariables false

/-! ### four colors: the place of the black cell, by its two diagonals -/
def blackC (d : Dm) : Int × Int := if (d.1 + d.2.1) % 2 = 0 then (d.1, d.2.1) else if d.2.2 then (d.1, d.2.1 + 1) else (d.1 + 1, d.2.1)
def colD (d : Dm) : Int := ((blackC d).1 + (blackC d).2) / 2 % 2 * 2 + ((blackC d).1 - (blackC d).2 + 16) / 2 % 2
def allD : List Dm := ((List.range 8).flatMap fun (x : Nat) => (List.range 8).flatMap fun (y : Nat) => [((x : Int), (y : Int), false), ((x : Int), (y : Int), true)])
theorem col_all : (allD.all fun d => allD.all fun e => !touch d.1 d.2.1 d.2.2 e.1 e.2.1 e.2.2 || !(colD d == colD e)) = true := by decide +kernel
theorem mem_allD {d : Dm} (h : domOk d.1 d.2.1 d.2.2 = true) : d ∈ allD := by
  obtain ⟨x, y, z⟩ := d
  have := cellOk_iff.1 (domOk_cells h).1
  dsimp only at this
  unfold allD
  rw [List.mem_flatMap]
  refine ⟨x.toNat, List.mem_range.2 (by omega), ?_⟩
  rw [List.mem_flatMap]
  refine ⟨y.toNat, List.mem_range.2 (by omega), ?_⟩
  have e1 : ((x.toNat : Nat) : Int) = x := by omega
  have e2 : ((y.toNat : Nat) : Int) = y := by omega
  rw [e1, e2]
  cases z <;> simp
theorem touch_ok {x y a b : Int} {z c : Bool} (h : touch x y z a b c = true) : domOk x y z = true ∧ domOk a b c = true := by
  unfold touch at h
  simp only [Bool.and_eq_true] at h
  exact ⟨by simp_all, by simp_all⟩
theorem touch_col {d e : Dm} (h : touch d.1 d.2.1 d.2.2 e.1 e.2.1 e.2.2 = true) : colD d ≠ colD e := by
  have h1 := touch_ok h
  have h2 := List.all_eq_true.1 (List.all_eq_true.1 col_all d (mem_allD h1.1)) e (mem_allD h1.2)
  rw [h] at h2
  simpa using h2
theorem colD_rng (d : Dm) : 0 ≤ colD d ∧ colD d < 4 := by unfold colD; omega
/-- The search finds colors, if there are some that continue the head. -/
theorem tryC_ne {g : Int → Option (List Int)} : ∀ (r : Nat) (x : Int) (k : Nat), k < r → g (x + k) ≠ none → tryC g r x ≠ none := by
  intro r
  induction r with
  | zero => intro x k h; omega
  | succ r ih =>
    intro x k hk hg
    cases h : g x with
    | some o => rw [tryC_some h]; simp
    | none =>
      rw [tryC_none h]
      cases k with
      | zero => exact absurd h (by simpa using hg)
      | succ k => exact ih (x + 1) k (by omega) (by rw [show x + 1 + (k : Int) = x + ((k + 1 : Nat) : Int) by omega]; exact hg)
theorem srch_ne {l : List Dm} {n : Nat} {cs : List Int} (hr : ∀ i < cs.length, 0 ≤ cAt cs i ∧ cAt cs i < n) (hm : ∀ i < cs.length, mh l cs i (cAt cs i) = true) : ∀ (f : Nat) (head : List Int), cs.length = head.length + f → cs.take head.length = head → srch l n f head ≠ none := by
  intro f
  induction f with
  | zero => intro head _ _; simp [srch]
  | succ f ih =>
    intro head hl ht
    have hi : head.length < cs.length := by omega
    have h1 := hr _ hi
    rw [srch_succ]
    refine tryC_ne n 0 (cAt cs head.length).toNat (by omega) ?_
    have e : (0 : Int) + ((cAt cs head.length).toNat : Nat) = cAt cs head.length := by omega
    rw [e]
    unfold stepC
    have hmm := hm _ hi
    rw [mh_take ht] at hmm
    rw [if_pos hmm]
    refine ih _ (by rw [List.length_append, List.length_singleton]; omega) ?_
    have hx : cs[head.length]? = some (cAt cs head.length) := by
      unfold cAt; rw [List.getElem?_eq_getElem hi]; rfl
    rw [List.length_append, List.length_singleton, take_snoc_at hx, ht]
theorem four (l : List Dm) : srch l 4 l.length [] ≠ none := by
  have hc : ∀ i < l.length, cAt (l.map colD) i = colD (dAt l i) := fun i hi => by
    have h : l[i]? = some l[i] := List.getElem?_eq_getElem hi
    rw [dAt_eq h]; exact cAt_eq (by rw [List.getElem?_map, h]; rfl)
  refine srch_ne (cs := l.map colD) (fun i hi => ?_) (fun i hi => ?_) l.length [] (by simp) (by simp)
  · rw [List.length_map] at hi
    rw [hc i hi]
    have := colD_rng (dAt l i); omega
  · rw [List.length_map] at hi
    rw [mh_iff]
    intro k hk
    rw [hc i hi, hc k (by omega)]
    cases ht : touchAt l i k
    · rw [Bool.and_false]
    · have := touch_col (d := dAt l i) (e := dAt l k) ht
      rw [Bool.and_true]
      simp only [beq_eq_false_iff_ne, ne_eq]
      exact fun e => this e.symm
def fewF (g : Nat → Bool) : Nat → Nat → Int
  | 0, _ => -1
  | r + 1, n => if g n then (n : Int) else fewF g r (n + 1)
def fewest (l : List Dm) : Int := fewF (fun n => (colorR l (n : Int)).isSome) 7 0
theorem fewest_no {l : List Dm} (h : apart l = false) : fewest l = -1 := by
  have : ∀ n : Int, colorR l n = none := fun n => by rw [colorR, h]; rfl
  simp [fewest, fewF, this]
theorem colorR_yes {l : List Dm} (h : apart l = true) {n : Nat} (hn : n ≤ 6) : colorR l (n : Int) = srch l n l.length [] := by
  have : inB (n : Int) 0 6 = true := inB_true.2 ⟨by omega, by omega⟩
  rw [colorR, h, this]; rfl
set_option maxRecDepth 100000 in
set_option maxHeartbeats 1000000 in
theorem FewestColors_i (A : Option Addr) (c : Nat) (l : List Dm) (w : World) (hl : l.length ≤ 1048576) (hr : RdD w A l) (hc : l.length ≤ c) :
    Calls Try.prog 59 #[.slice A l.length c] w fun e w' => e = .returned (.int .i64 (fewest l)) ∧ Below w.heap.size w w' := by
  have hr' := Lib.hid hr
  have hB := Below.refl w.heap.size w
  clear hr
  cases c1 : apart l
  · have hv := Lib.hid (fewest_no c1)
    have C1 := Lib.hid c1
    clear c1
    go_enter Try.func59, Try.ntmps59
    go_wp2_with (go_at_call 141; refine (areApart_any A c l _ hl (hr'.out.below hB) hc).mono ?_; rintro e wn ⟨rfl, hbn⟩; have hSz := bl_sz (bl_trans hB (by go_grown)) hbn; replace hB := bl_trans (bl_trans hB (by go_grown)) hbn; rw [C1.out]; clear hbn)
    go_ret
    exact ⟨ret_int (by rw [hv.out]), hB⟩
  · have C1 := Lib.hid c1
    have h18 := apart_18 c1
    clear c1
    go_enter Try.func59, Try.ntmps59
    go_wp2_with (go_at_call 141; refine (areApart_any A c l _ hl (hr'.out.below hB) hc).mono ?_; rintro e wn ⟨rfl, hbn⟩; have hSz := bl_sz (bl_trans hB (by go_grown)) hbn; replace hB := bl_trans (bl_trans hB (by go_grown)) hbn; rw [C1.out]; clear hbn)
    go_loopw [3] (fun q wr => ∃ n : Nat, n ≤ 4 ∧ q = .int .i64 n ∧ Hid (fewest l = fewF (fun n => (colorR l (n : Int)).isSome) (7 - n) n) ∧ Below w.heap.size w wr) (fun q _ => 5 - (intOf q).toNat)
    case atStart => exact ⟨0, by omega, rfl, Lib.hid rfl, hB⟩
    case round =>
      obtain ⟨n, hn, rfl, HF, hB2⟩ := hrel
      clear hB
      have hB := hB2
      clear hB2
      have hn6 : n ≤ 6 := by omega
      have hcr := colorR_yes C1.out hn6
      have hstep : fewest l = if (srch l n l.length []).isSome then (n : Int) else fewF (fun n => (colorR l (n : Int)).isSome) (7 - (n + 1)) (n + 1) := by
        rw [HF.out, show 7 - n = (7 - (n + 1)) + 1 by omega, fewF, hcr]
      cases c3 : srch l n l.length [] with
      | none =>
        have hn4 : n < 4 := by
          rcases Nat.lt_or_ge n 4 with h | h
          · exact h
          · obtain rfl : n = 4 := by omega
            exact absurd c3 (four l)
        have C3 := Lib.hid c3
        have HF2 := Lib.hid (show fewest l = fewF (fun n => (colorR l (n : Int)).isSome) (7 - (n + 1)) (n + 1) by rw [hstep, c3]; rfl)
        clear c3 hstep hcr
        go_wp2_with (go_at_call 142; refine (firstColors_any A l.length c l n _ rfl h18 hc (hr'.out.below hB) hn6).mono ?_; rintro e wn ⟨v, rfl, ⟨o5, ho5, hs5⟩, hbn⟩; have hSz := bl_sz (bl_trans hB (by go_grown)) hbn; replace hB := bl_trans (bl_trans hB (by go_grown)) hbn; rw [C3.out]; clear hbn)
        go_roundw
        case rel => exact ⟨n + 1, by omega, by go_num, HF2, hB⟩
        case measure => simp [intOf]; omega
      | some so =>
        have C3 := Lib.hid c3
        have HF2 := Lib.hid (show fewest l = (n : Int) by rw [hstep, c3]; rfl)
        clear c3 hstep hcr
        go_wp2_with (go_at_call 142; refine (firstColors_any A l.length c l n _ rfl h18 hc (hr'.out.below hB) hn6).mono ?_; rintro e wn ⟨v, rfl, ⟨o5, ho5, hs5⟩, hbn⟩; have hSz := bl_sz (bl_trans hB (by go_grown)) hbn; replace hB := bl_trans (bl_trans hB (by go_grown)) hbn; rw [C3.out]; clear hbn)
        go_ret
        exact ⟨ret_int (by rw [HF2.out]), hB⟩
end Go.Proofs.Ytdcjhfmkkcakhaa

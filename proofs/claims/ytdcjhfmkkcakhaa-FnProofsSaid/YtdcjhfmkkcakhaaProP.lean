/-
  The plain law of FnProofs: where a pattern gives every shape the weight zero, a region that is covered has the weight zero. No program in sight.
-/
import Derived.Test.YtdcjhfmkkcakhaaCovS
import Derived.Test.YtdcjhfmkkcakhaaNeut
import Derived.Test.YtdcjhfmkkcakhaaStripe
import Derived.Test.YtdcjhfmkkcakhaaCovL
namespace Go.Proofs.Ytdcjhfmkkcakhaa
open Go.ChangeShapes Go.WideShapes Go.ChangeAt Go.RowKit Go.Deep
set_option linter.unusedVariables false

/-- the weight of a set -/
def wtS (g : Cl → Int) (s : Nat) : Nat → Int
  | 0 => 0
  | k + 1 => wtS g s k + if s.testBit k then g (cellOf k) else 0
theorem wtS_zero (g : Cl → Int) (k : Nat) : wtS g 0 k = 0 := by
  induction k with
  | zero => rfl
  | succ k ih => simp [wtS, ih]
theorem wtS_add (g : Cl → Int) {s o : Nat} (hs : s < 18446744073709551616) (ho : o < 18446744073709551616) (h : s &&& o = o) (k : Nat) : wtS g s k = wtS g o k + wtS g (bdiff s o) k := by
  induction k with
  | zero => rfl
  | succ k ih =>
    have hb := bdiff_bit hs ho k
    have hk : (s &&& o).testBit k = o.testBit k := by rw [h]
    rw [Nat.testBit_and] at hk
    simp only [wtS, hb, ih]
    cases h1 : s.testBit k <;> cases h2 : o.testBit k <;> simp_all <;> omega
theorem wtS_cells (a b m : Int) (l : List Int) (s : Nat) (k : Nat) : sumW a b m l (cellsBy s.testBit k) = wtS (fun c => weightAt a b m l c.1 c.2) s k := by
  induction k with
  | zero => rfl
  | succ k ih =>
    rw [cellsBy_succ, wtS]
    split
    · rw [show cellOf k = ((cellOf k).1, (cellOf k).2) from rfl, sumW_snoc, ih]
    · rw [List.append_nil, ih]; omega
theorem sum_ne {l : List Int} (h : l.sum ≠ 0) : ∃ x ∈ l, x ≠ 0 := by
  induction l with
  | nil => simp at h
  | cons x l ih =>
    by_cases hx : x = 0
    · subst hx
      obtain ⟨y, hy, hn⟩ := ih (by simpa using h)
      exact ⟨y, List.mem_cons_of_mem _ hy, hn⟩
    · exact ⟨x, List.mem_cons_self, hx⟩
theorem covSum_ne {g : Nat → Int} {s : Nat} {l : List Nat} (h : covSum g s l ≠ 0) : ∃ o ∈ l, s &&& o = o ∧ g o ≠ 0 := by
  obtain ⟨x, hx, hn⟩ := sum_ne h
  obtain ⟨o, ho, rfl⟩ := List.mem_map.1 hx
  refine ⟨o, ho, ?_⟩
  split at hn
  · rename_i e; exact ⟨by simpa using e, hn⟩
  · exact absurd rfl hn
/-- a set that is covered by tiles of weight zero has weight zero -/
theorem covs_weight {tiles : Nat → List Nat} {g : Cl → Int} {m : Int} (ht : ∀ q, ∀ o ∈ tiles q, o < 18446744073709551616 ∧ wtS g o 64 % m = 0) :
    ∀ (f s : Nat), s < 18446744073709551616 → covs tiles f s ≠ 0 → wtS g s 64 % m = 0 := by
  intro f
  induction f with
  | zero =>
    intro s hs h
    by_cases h0 : s = 0
    · subst h0; rw [wtS_zero]; simp
    · exact absurd (by simp [covs, h0]) h
  | succ f ih =>
    intro s hs h
    by_cases h0 : s = 0
    · subst h0; rw [wtS_zero]; simp
    · rw [covs_succ tiles f h0] at h
      obtain ⟨o, ho, hso, hn⟩ := covSum_ne h
      obtain ⟨h1, h2⟩ := ht _ o ho
      have h3 := ih _ (bdiff_lt hs) hn
      rw [wtS_add g hs h1 hso]
      rw [Int.add_emod, h2, h3]; simp
/-! ### neutral shapes -/
theorem low_hit (f : Cl → Int) {l : List Cl} (h : l ≠ []) : ∃ c ∈ l, f c = minF f (f (l.headD (0, 0))) l := by
  rcases minF_at f l (f (l.headD (0, 0))) with h1 | h1
  · cases l with
    | nil => exact absurd rfl h
    | cons c t => exact ⟨c, List.mem_cons_self, h1.symm⟩
  · exact h1
theorem fitL_x0 {l : List Cl} (h : l ≠ []) : ∃ c ∈ fitL l, c.1 = 0 := by
  obtain ⟨c, hc, e⟩ := low_hit Prod.fst h
  exact ⟨_, fitTo_mem.2 ⟨c, hc, rfl⟩, by show c.1 - lowX l = 0; rw [show c.1 = lowX l from e]; omega⟩
theorem fitL_y0 {l : List Cl} (h : l ≠ []) : ∃ c ∈ fitL l, c.2 = 0 := by
  obtain ⟨c, hc, e⟩ := low_hit Prod.snd h
  exact ⟨_, fitTo_mem.2 ⟨c, hc, rfl⟩, by show c.2 - lowY l = 0; rw [show c.2 = lowY l from e]; omega⟩
theorem turns_zero {sh own : List Cl} (h : own ∈ turnsR sh) : (∃ c ∈ own, c.1 = 0) ∧ ∃ c ∈ own, c.2 = 0 := by
  have h3 := turnsR_of h
  unfold turnsR at h
  split at h
  · rename_i hs
    obtain ⟨j, hj, rfl⟩ := (turnsTo_mem (shapeOk_strict hs).ok 8 own).1 h
    have hne : turnL sh j ≠ [] := by intro e; rw [e] at h3; simp at h3; omega
    have key : ∀ L : List Cl, fitL L ≠ [] → L ≠ [] := fun L h e => h (by subst e; rfl)
    exact ⟨fitL_x0 (key _ hne), fitL_y0 (key _ hne)⟩
  · simp at h
theorem tiles_weight {a b m : Int} {l : List Int} {sh : List Cl} (h : neutR a b m l sh = true) (q : Nat) : ∀ o ∈ tilesS (turnsR sh) q, o < 18446744073709551616 ∧ wtS (fun c => weightAt a b m l c.1 c.2) o 64 % m = 0 := by
  intro o ho
  unfold tilesS tSk at ho
  obtain ⟨own, hown, ho⟩ := List.mem_flatMap.1 ho
  unfold tS1 at ho
  split at ho
  · rename_i hf
    rw [List.mem_singleton] at ho
    subst ho
    obtain ⟨dx, hdx⟩ : ∃ dx, dx = (cellOf q).1 - (hdC own).1 := ⟨_, rfl⟩
    obtain ⟨dy, hdy⟩ : ∃ dy, dy = (cellOf q).2 - (hdC own).2 := ⟨_, rfl⟩
    rw [← hdx, ← hdy] at hf ⊢
    have hst := moveL_strict (turnsR_of hown).1 hf
    refine ⟨setL_lt hst.ok, ?_⟩
    obtain ⟨⟨c, hc, c0⟩, d, hd, d0⟩ := turns_zero hown
    have h1 := cellOk_iff.1 (fitsL_iff.1 hf (c.1 + dx, c.2 + dy) (List.mem_map.2 ⟨c, hc, rfl⟩))
    have h2 := cellOk_iff.1 (fitsL_iff.1 hf (d.1 + dx, d.2 + dy) (List.mem_map.2 ⟨d, hd, rfl⟩))
    dsimp only at h1 h2
    simp only [neutR, Bool.and_eq_true, List.all_eq_true] at h
    have h3 := h.2 own hown ((dy * 8 + dx).toNat) (List.mem_range.2 (by omega))
    rw [okAt_yes (dx := dx) (dy := dy) (by omega) (by omega) hf] at h3
    rw [← wtS_cells, hst.cells]
    simpa using h3
  · simp at ho
/-- a proof by weights is never wrong -/
theorem proof_right {a b m : Int} {l rs : List Int} {sh : List Cl} (hreg : regOk rs = true) (h : proofR a b m l rs sh = true) : countShape rs sh = 0 := by
  unfold proofR at h
  rw [Bool.and_eq_true] at h
  obtain ⟨hn, hw⟩ := h
  have hp : patOk a b m l = true := by simp only [neutR, Bool.and_eq_true] at hn; exact hn.1.1
  have hs : shapeOk sh = true := by simp only [neutR, Bool.and_eq_true] at hn; exact hn.1.2
  by_cases h20 : (regCells rs).length ≤ 20
  · rw [countShape_yes hreg hs h20]
    have hz : covs (tilesS (turnsR sh)) 64 (regSet rs) = 0 := by
      cases Classical.em (covs (tilesS (turnsR sh)) 64 (regSet rs) = 0) with
      | inl h => exact h
      | inr hne =>
        exfalso
        have hwt := covs_weight (tiles_weight hn) 64 (regSet rs) (regSet_lt hreg) hne
        rw [weightOf, if_pos hp, regCells_set hreg, wtS_cells, hwt] at hw
        simp at hw
    rw [hz]; simp [wrap64]
  · exact countShape_no3 sh h20
/-! ### stripes -/
def lineL (k : Nat) : List Cl := (List.range k).map fun i : Nat => ((i : Int), (0 : Int))
theorem stripe_ok : ∀ k : Fin 3, neutR ((k.val + 2 : Nat) : Int) ((k.val + 2 : Nat) : Int) ((k.val + 2 : Nat) : Int) (stripe ((k.val + 2 : Nat) : Int)) (lineL (k.val + 2)) = true := by decide +kernel
theorem stripe_neutral {k : Nat} (h2 : 2 ≤ k) (h4 : k ≤ 4) : neutR (k : Int) (k : Int) (k : Int) (stripe (k : Int)) (lineL k) = true := by
  have := stripe_ok ⟨k - 2, by omega⟩
  simpa [show k - 2 + 2 = k by omega] using this
theorem stripe_long0 : ∀ (k : Fin 3) (w : Fin 6) (h : Fin 4), (!(proofR ((k.val + 2 : Nat) : Int) ((k.val + 2 : Nat) : Int) ((k.val + 2 : Nat) : Int) (stripe ((k.val + 2 : Nat) : Int)) (rectR ((w.val + 1 : Nat) : Int) ((h.val + 1 : Nat) : Int)) (lineL (k.val + 2))) || countLong ((w.val + 1 : Nat) : Int) ((h.val + 1 : Nat) : Int) ((k.val + 2 : Nat) : Int) == 0) = true := by decide +kernel
theorem stripe_long {k w h : Nat} (h2 : 2 ≤ k) (h4 : k ≤ 4) (hw1 : 1 ≤ w) (hw6 : w ≤ 6) (hh1 : 1 ≤ h) (hh4 : h ≤ 4) (hp : proofR (k : Int) (k : Int) (k : Int) (stripe (k : Int)) (rectR (w : Int) (h : Int)) (lineL k) = true) : countLong (w : Int) (h : Int) (k : Int) = 0 := by
  have := stripe_long0 ⟨k - 2, by omega⟩ ⟨w - 1, by omega⟩ ⟨h - 1, by omega⟩
  simp only [show k - 2 + 2 = k by omega, show w - 1 + 1 = w by omega, show h - 1 + 1 = h by omega, hp, Bool.not_true, Bool.false_or, beq_iff_eq] at this
  exact this
end Go.Proofs.Ytdcjhfmkkcakhaa

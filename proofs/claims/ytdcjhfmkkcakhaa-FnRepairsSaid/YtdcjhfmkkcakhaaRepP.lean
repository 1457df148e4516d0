/-
  The plain model of the repairs: the nearest tiling without a domino, its cost, the domino of the greatest cost. No program in sight.
-/
import Derived.Test.YtdcjhfmkkcakhaaL08
import Derived.Test.YtdcjhfmkkcakhaaDoms
namespace Go.Proofs.Ytdcjhfmkkcakhaa
open Go.ChangeShapes Go.WideShapes Go.ChangeAt Go.RowKit Go.Deep
set_option linter.unusedVariables false

def idxD : List (List Dm) → List Dm → Int → Int
  | [], _, _ => -1
  | a :: t, l, k => if a = l then k else idxD t l (k + 1)
theorem idxD_neg (l : List Dm) : ∀ (all : List (List Dm)) (k : Int), 0 ≤ k → (idxD all l k < 0 ↔ l ∉ all) := by
  intro all
  induction all with
  | nil => intro k _; simp [idxD]
  | cons a t ih =>
    intro k hk
    rw [idxD]
    by_cases h : a = l
    · rw [if_pos h]; subst h; simp; omega
    · rw [if_neg h, ih (k + 1) (by omega)]
      simp only [List.mem_cons, not_or]
      exact ⟨fun h2 => ⟨fun e => h e.symm, h2⟩, fun h2 => h2.2⟩
theorem idxD_rng (l : List Dm) : ∀ (all : List (List Dm)) (k : Int), 0 ≤ k → -1 ≤ idxD all l k ∧ idxD all l k ≤ k + all.length := by
  intro all
  induction all with
  | nil => intro k hk; simp [idxD]; omega
  | cons a t ih =>
    intro k hk
    rw [idxD]
    split
    · simp; omega
    · have := ih (k + 1) (by omega)
      rw [List.length_cons]; omega
/-- the index of the nearest among the first so many -/
def bestTo (list : List Dm) (br : Dm) (all : List (List Dm)) : Nat → Option Nat
  | 0 => none
  | k + 1 => match all[k]? with
    | none => bestTo list br all k
    | some own => if br ∈ own then bestTo list br all k else match bestTo list br all k with
      | none => some k
      | some b => if countCh list own < countCh list ((all[b]?).getD []) then some k else some b
theorem bestTo_lt {list : List Dm} {br : Dm} {all : List (List Dm)} : ∀ (k b : Nat), bestTo list br all k = some b → b < k := by
  intro k
  induction k with
  | zero => intro b h; cases h
  | succ k ih =>
    intro b h
    rw [bestTo] at h
    split at h
    · have := ih b h; omega
    · split at h
      · have := ih b h; omega
      · split at h
        · injection h with h; omega
        · rename_i b' hb
          split at h
          · injection h with h; omega
          · injection h with h; subst h; have := ih _ hb; omega
theorem bestTo_in {list : List Dm} {br : Dm} {all : List (List Dm)} {own : List Dm} {k : Nat} (h : all[k]? = some own) (hin : br ∈ own) : bestTo list br all (k + 1) = bestTo list br all k := by rw [bestTo, h]; simp only [if_pos hin]
theorem bestTo_first {list : List Dm} {br : Dm} {all : List (List Dm)} {own : List Dm} {k : Nat} (h : all[k]? = some own) (hin : br ∉ own) (hb : bestTo list br all k = none) : bestTo list br all (k + 1) = some k := by rw [bestTo, h, hb]; simp only [if_neg hin]
theorem bestTo_next {list : List Dm} {br : Dm} {all : List (List Dm)} {own l : List Dm} {k b : Nat} (h : all[k]? = some own) (hin : br ∉ own) (hb : bestTo list br all k = some b) (hl : all[b]? = some l) : bestTo list br all (k + 1) = if countCh list own < countCh list l then some k else some b := by rw [bestTo, h, hb]; simp only [if_neg hin, hl, Option.getD_some]
def bestOf (list : List Dm) (br : Dm) (all : List (List Dm)) : Option Nat := bestTo list br all all.length
def repR (rs : List Int) (list : List Dm) (br : Dm) : Option (List Dm) := if list ∈ listT rs then (bestOf list br (listT rs)).bind fun b => (listT rs)[b]? else none
theorem repR_no {rs : List Int} {list : List Dm} {br : Dm} (h : list ∉ listT rs) : repR rs list br = none := by unfold repR; rw [if_neg h]
theorem repR_none {rs : List Int} {list : List Dm} {br : Dm} (h : list ∈ listT rs) (hb : bestOf list br (listT rs) = none) : repR rs list br = none := by unfold repR; rw [if_pos h, hb]; rfl
theorem repR_some {rs : List Int} {list l : List Dm} {br : Dm} {b : Nat} (h : list ∈ listT rs) (hb : bestOf list br (listT rs) = some b) (hl : (listT rs)[b]? = some l) : repR rs list br = some l := by unfold repR; rw [if_pos h, hb]; exact hl
theorem tils_item {f : Nat} : ∀ (s : Nat) (t : List Dm), t ∈ tils f s → t.length ≤ f := by
  induction f with
  | zero =>
    intro s t h
    unfold tils at h
    split at h
    · rw [List.mem_singleton] at h; subst h; simp
    · cases h
  | succ f ih =>
    intro s t h
    by_cases h0 : s = 0
    · subst h0; rw [tils_zero, List.mem_singleton] at h; subst h; simp
    · obtain ⟨z, hz⟩ := (tils_mem h0).1 h
      obtain ⟨_, t', ht', rfl⟩ := tilD_mem.1 hz
      have := ih _ t' ht'
      rw [List.length_cons]; omega
theorem listT_item {rs : List Int} {t : List Dm} (h : t ∈ listT rs) : t.length ≤ 64 := by
  unfold listT at h
  split at h
  · exact tils_item _ t h
  · cases h
theorem repR_len (rs : List Int) (list : List Dm) (br : Dm) : ((repR rs list br).getD []).length ≤ 64 := by
  cases h : repR rs list br with
  | none => simp
  | some l =>
    unfold repR at h
    split at h
    · cases hb : bestOf list br (listT rs) with
      | none => rw [hb] at h; cases h
      | some b =>
        rw [hb] at h
        exact listT_item (List.mem_of_getElem? (show (listT rs)[b]? = some l from h))
    · cases h
def costR (rs : List Int) (list : List Dm) (br : Dm) : Int := match repR rs list br with
  | none => -1
  | some t => countCh list t
theorem countCh_le (a b : List Dm) : countCh a b ≤ a.length := List.length_filter_le _ _
/-- the cost of the domino at an index, 1000 where there is no tiling -/
def costAt (all : List (List Dm)) (list : List Dm) (k : Nat) : Int := match list[k]? with
  | none => 1000
  | some d => match bestOf list d all with
    | none => 1000
    | some b => countCh list ((all[b]?).getD [])
theorem costAt_nonneg (all : List (List Dm)) (list : List Dm) (k : Nat) : 0 ≤ costAt all list k := by
  unfold costAt
  split
  · decide
  · split
    · decide
    · omega
theorem costAt_none {all : List (List Dm)} {list : List Dm} {k : Nat} {d : Dm} (h : list[k]? = some d) (hb : bestOf list d all = none) : costAt all list k = 1000 := by unfold costAt; rw [h]; simp only [hb]
theorem costAt_some {all : List (List Dm)} {list l : List Dm} {k b : Nat} {d : Dm} (h : list[k]? = some d) (hb : bestOf list d all = some b) (hl : all[b]? = some l) : costAt all list k = countCh list l := by unfold costAt; rw [h]; simp only [hb, hl, Option.getD_some]
def wTo (f : Nat → Int) : Nat → Int × Int
  | 0 => (-1, -1)
  | k + 1 => if (wTo f k).2 < f k then ((k : Int), f k) else wTo f k
def worstR (rs : List Int) (list : List Dm) : Int := if list ∈ listT rs then (wTo (costAt (listT rs) list) list.length).1 else -1
theorem wTo_pos {f : Nat → Int} (hf : ∀ k, 0 ≤ f k) : ∀ k, 0 < k → 0 ≤ (wTo f k).1 ∧ 0 ≤ (wTo f k).2 := by
  intro k
  induction k with
  | zero => intro h; omega
  | succ k ih =>
    intro _
    rw [wTo]
    split
    · exact ⟨by dsimp only; omega, hf k⟩
    · rename_i h
      rcases Nat.eq_zero_or_pos k with h0 | h0
      · subst h0
        exfalso
        have := hf 0
        apply h
        show (-1 : Int) < f 0
        omega
      · exact ih h0
theorem wTo_rng (f : Nat → Int) : ∀ k, -1 ≤ (wTo f k).1 ∧ (wTo f k).1 < (k : Int) + (if k = 0 then 0 else 0) ∨ k = 0 ∧ (wTo f k).1 = -1 := by
  intro k
  induction k with
  | zero => exact .inr ⟨rfl, rfl⟩
  | succ k ih =>
    left
    rw [wTo]
    split
    · simp; omega
    · rcases ih with ih | ih
      · simp at ih ⊢; omega
      · rw [ih.2]; simp; omega
end Go.Proofs.Ytdcjhfmkkcakhaa

/-
  What is reached from a cell is closed under neighbours, and lies in every closed set that holds the cell. No program in sight.
-/
import Derived.Test.YtdcjhfmkkcakhaaReach
namespace Go.Proofs.Ytdcjhfmkkcakhaa
open Go.ChangeShapes Go.WideShapes Go.ChangeAt Go.RowKit Go.Deep
set_option linter.unusedVariables false

theorem mem_addC {L : List Cl} {d e : Cl} : e ∈ addC L d ↔ e ∈ L ∨ e = d := by
  unfold addC
  split
  · rename_i h
    constructor
    · exact .inl
    · rintro (h1 | rfl)
      · exact h1
      · exact h
  · simp
theorem mem_foldC {e : Cl} : ∀ {l L : List Cl}, e ∈ l.foldl addC L ↔ e ∈ L ∨ e ∈ l
  | [], L => by simp
  | d :: l, L => by
    rw [List.foldl_cons, mem_foldC, mem_addC, List.mem_cons, or_assoc]
theorem mem_grow {s : Nat} {L : List Cl} {c d : Cl} : d ∈ grow s L c ↔ d ∈ L ∨ (cellOk d.1 d.2 = true ∧ s.testBit (idxN d) = true ∧ nbr c.1 c.2 d.1 d.2 = true) := by
  unfold grow
  rw [mem_foldC, mem_cellsBy]
  constructor
  · rintro (h | ⟨h1, h2⟩)
    · exact .inl h
    · rw [Bool.and_eq_true, of_idxN h1] at h2
      exact .inr ⟨h1, h2.1, h2.2⟩
  · rintro (h | ⟨h1, h2, h3⟩)
    · exact .inl h
    · exact .inr ⟨h1, by rw [Bool.and_eq_true, of_idxN h1]; exact ⟨h2, h3⟩⟩
theorem grow_at {s k : Nat} {L : List Cl} {c d : Cl} (h : L[k]? = some d) : (grow s L c)[k]? = some d := by
  unfold grow
  obtain ⟨t, ht⟩ := fold_pre (cellsBy (fun k => s.testBit k && nbr c.1 c.2 (cellOf k).1 (cellOf k).2) 64) L
  rw [ht, List.getElem?_append_left (List.getElem?_eq_some_iff.1 h).1]; exact h
def ClosTo (s k : Nat) (L : List Cl) : Prop := ∀ i < k, ∀ c, L[i]? = some c → ∀ d : Cl, cellOk d.1 d.2 = true → s.testBit (idxN d) = true → nbr c.1 c.2 d.1 d.2 = true → d ∈ L
theorem bfs_clos {s : Nat} : ∀ (f k : Nat) (L : List Cl), WfL s L → ClosTo s k L → 64 ≤ f + k → ∀ c ∈ bfs s f k L, ∀ d : Cl, cellOk d.1 d.2 = true → s.testBit (idxN d) = true → nbr c.1 c.2 d.1 d.2 = true → d ∈ bfs s f k L := by
  intro f
  induction f with
  | zero =>
    intro k L hw hc hk c hcL d h1 h2 h3
    have hl := hw.len
    obtain ⟨i, hi, rfl⟩ := List.getElem_of_mem (show c ∈ L from hcL)
    exact hc i (by omega) _ (List.getElem?_eq_getElem hi) d h1 h2 h3
  | succ f ih =>
    intro k L hw hc hk c hcL d h1 h2 h3
    cases hL : L[k]? with
    | none =>
      have hle : L.length ≤ k := by rwa [List.getElem?_eq_none_iff] at hL
      rw [bfs_end hle] at hcL ⊢
      obtain ⟨i, hi, rfl⟩ := List.getElem_of_mem hcL
      exact hc i (by omega) _ (List.getElem?_eq_getElem hi) d h1 h2 h3
    | some e =>
      rw [bfs_step hL] at hcL ⊢
      refine ih (k + 1) (grow s L e) (hw.grow e) ?_ (by omega) c hcL d h1 h2 h3
      intro i hi x hx y g1 g2 g3
      rcases Nat.lt_or_ge i k with h | h
      · have hil : i < L.length := by have := (List.getElem?_eq_some_iff.1 hL).1; omega
        have hxe := grow_at (s := s) (c := e) (List.getElem?_eq_getElem hil)
        rw [hxe] at hx
        injection hx with hx
        subst hx
        exact mem_grow.2 (.inl (hc i h _ (List.getElem?_eq_getElem hil) y g1 g2 g3))
      · obtain rfl : i = k := by omega
        rw [grow_at hL] at hx
        injection hx with hx
        subst hx
        exact mem_grow.2 (.inr ⟨g1, g2, g3⟩)
theorem bfs_sub {s : Nat} {e : Cl} : ∀ (f k : Nat) (L : List Cl), e ∈ L → e ∈ bfs s f k L := by
  intro f
  induction f with
  | zero => intro k L h; exact h
  | succ f ih =>
    intro k L h
    cases hL : L[k]? with
    | none =>
      have hle : L.length ≤ k := by rwa [List.getElem?_eq_none_iff] at hL
      rw [bfs_end hle]; exact h
    | some c => rw [bfs_step hL]; exact ih _ _ (mem_grow.2 (.inl h))
theorem reach_self (s : Nat) (c : Cl) : c ∈ reachL s c := bfs_sub 65 0 [c] (by simp)
theorem reach_clos {s : Nat} {c x d : Cl} (hc : cellOk c.1 c.2 = true) (hx : x ∈ reachL s c) (h1 : cellOk d.1 d.2 = true) (h2 : s.testBit (idxN d) = true) (h3 : nbr x.1 x.2 d.1 d.2 = true) : d ∈ reachL s c :=
  bfs_clos 65 0 [c] (WfL.one hc) (fun i hi => absurd hi (Nat.not_lt_zero i)) (by omega) x hx d h1 h2 h3
/-- a set of cells that is closed and holds the beginning holds all that is reached -/
theorem bfs_in {s : Nat} {P : Cl → Prop} (hP : ∀ x d : Cl, P x → cellOk d.1 d.2 = true → s.testBit (idxN d) = true → nbr x.1 x.2 d.1 d.2 = true → P d) : ∀ (f k : Nat) (L : List Cl), (∀ x ∈ L, P x) → ∀ x ∈ bfs s f k L, P x := by
  intro f
  induction f with
  | zero => intro k L h; exact h
  | succ f ih =>
    intro k L h
    cases hL : L[k]? with
    | none =>
      have hle : L.length ≤ k := by rwa [List.getElem?_eq_none_iff] at hL
      rw [bfs_end hle]; exact h
    | some c =>
      rw [bfs_step hL]
      refine ih _ _ fun x hx => ?_
      rcases mem_grow.1 hx with hx | ⟨g1, g2, g3⟩
      · exact h x hx
      · exact hP c x (h c (List.mem_of_getElem? hL)) g1 g2 g3
theorem reach_in {s : Nat} {c : Cl} {P : Cl → Prop} (h0 : P c) (hP : ∀ x d : Cl, P x → cellOk d.1 d.2 = true → s.testBit (idxN d) = true → nbr x.1 x.2 d.1 d.2 = true → P d) : ∀ x ∈ reachL s c, P x :=
  bfs_in hP 65 0 [c] (by simpa using h0)
end Go.Proofs.Ytdcjhfmkkcakhaa

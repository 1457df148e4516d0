/-
  A region that has a cell has a door: its least cell has no neighbour above it. No program in sight.
-/
import Derived.Test.YtdcjhfmkkcakhaaNeigh
import Derived.Test.YtdcjhfmkkcakhaaCov
namespace Go.Proofs.Ytdcjhfmkkcakhaa
open Go.ChangeShapes Go.WideShapes Go.ChangeAt Go.RowKit Go.Deep
set_option linter.unusedVariables false

theorem nbrs_four : ∀ q : Fin 64, ((nbrs (cellOf q.val).1 (cellOf q.val).2).length ≤ 4 ∧ (q.val < 8 → (nbrs (cellOf q.val).1 (cellOf q.val).2).length ≤ 3)) ∧ (8 ≤ q.val → cellOf (q.val - 8) ∈ nbrs (cellOf q.val).1 (cellOf q.val).2) := by decide +kernel
theorem door_low {rs : List Int} (h : regOk rs = true) (h0 : regSet rs ≠ 0) : cellOf (lowb (regSet rs)) ∈ doors rs := by
  obtain ⟨l1, l2, l3⟩ := lowb_spec (regSet_lt h) h0
  obtain ⟨⟨n1, n2⟩, n3⟩ := nbrs_four ⟨lowb (regSet rs), l1⟩
  unfold doors
  rw [List.mem_filter, decide_eq_true_eq]
  refine ⟨?_, ?_⟩
  · rw [regCells_set h, mem_cellsBy]
    exact ⟨cellOf_ok _ l1, by rw [idxN_of]; exact l2⟩
  · unfold deg
    rcases Nat.lt_or_ge (lowb (regSet rs)) 8 with e | e
    · exact Nat.lt_of_le_of_lt (List.length_filter_le _ _) (by have := n2 e; dsimp only at this; omega)
    · have hm := n3 e
      have hf : regHas rs (cellOf (lowb (regSet rs) - 8)).1 (cellOf (lowb (regSet rs) - 8)).2 = false := by
        rw [← regSet_bit h]; exact l3 _ (by omega)
      have hlt : ((nbrs (cellOf (lowb (regSet rs))).1 (cellOf (lowb (regSet rs))).2).filter fun d => regHas rs d.1 d.2).length < (nbrs (cellOf (lowb (regSet rs))).1 (cellOf (lowb (regSet rs))).2).length := by
        rw [List.length_filter_lt_length_iff_exists]
        exact ⟨_, hm, by rw [hf]; decide⟩
      dsimp only at n1
      omega
theorem doors_in {rs : List Int} {c : Cl} (h : c ∈ doors rs) : c ∈ regCells rs := (List.mem_filter.1 h).1
theorem regSet_ne {rs : List Int} (h : regOk rs = true) (hc : regCells rs ≠ []) : regSet rs ≠ 0 := by
  intro e
  apply hc
  rw [regCells_set h, e]
  have : (cellsBy (Nat.testBit 0) 64).length = 0 := by rw [card_cells]; exact (card_zero (by decide)).2 rfl
  exact List.eq_nil_of_length_eq_zero this
end Go.Proofs.Ytdcjhfmkkcakhaa

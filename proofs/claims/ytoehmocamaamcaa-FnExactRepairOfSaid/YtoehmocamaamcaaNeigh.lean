/-
  Contracts of the functions on neighbors of cells and doors of regions (NeighborsOf, HasCell, DoorsOf): what each returns, as a function of its arguments; nothing that was there is written; at most 1048576 rows.
-/
import Derived.Test.YtoehmocamaamcaaSets
import Derived.Test.YtoehmocamaamcaaIn
namespace Go.Proofs.Ytoehmocamaamcaa
open Go.ChangeShapes Go.WideShapes Go.ChangeAt Go.RowKit Go.Deep
set_option linter.unusedVariables false

def nbrs (x y : Int) : List (Int × Int) := cellsBy (fun k => nbr x y (cellOf k).1 (cellOf k).2) 64
def cand (x y : Int) : List (Int × Int) := [(x, y - 1), (x - 1, y), (x + 1, y), (x, y + 1)]
def okC (c : Int × Int) : Bool := cellOk c.1 c.2
theorem cell_nat {x y : Int} (h : cellOk x y = true) : ∃ k : Nat, k < 64 ∧ (x, y) = cellOf k := by
  have := cellOk_iff.1 h
  refine ⟨(y * 8 + x).toNat, by omega, ?_⟩
  unfold cellOf
  rw [Prod.mk.injEq]
  constructor
  · omega
  · omega
theorem cand_all : ∀ k : Fin 64, (cand (cellOf k.1).1 (cellOf k.1).2).filter okC = nbrs (cellOf k.1).1 (cellOf k.1).2 := by decide +kernel
theorem cand_nbrs {x y : Int} (h : cellOk x y = true) : (cand x y).filter okC = nbrs x y := by
  obtain ⟨k, hk, e⟩ := cell_nat h
  have := cand_all ⟨k, hk⟩
  rw [← e] at this
  exact this
theorem nbrs_len (x y : Int) : (nbrs x y).length ≤ 64 := cellsBy_len _ _
theorem nbrs_ok {x y : Int} {c : Int × Int} (h : c ∈ nbrs x y) : cellOk c.1 c.2 = true := cellsBy_ok (Nat.le_refl _) h
def deg (rs : List Int) (c : Int × Int) : Nat := ((nbrs c.1 c.2).filter fun d => regHas rs d.1 d.2).length
def degTo (rs : List Int) (l : List (Int × Int)) : Nat := (l.filter fun d => regHas rs d.1 d.2).length
theorem degTo_snoc (rs : List Int) (l : List (Int × Int)) (d : Int × Int) : degTo rs (l ++ [d]) = degTo rs l + (if regHas rs d.1 d.2 then 1 else 0) := by
  unfold degTo
  rw [List.filter_append, List.length_append]
  cases h : regHas rs d.1 d.2 <;> simp [h]
theorem degTo_le (rs : List Int) (l : List (Int × Int)) : degTo rs l ≤ l.length := List.length_filter_le _ _
def doors (rs : List Int) : List (Int × Int) := (regCells rs).filter fun c => decide (deg rs c < 4)
theorem doors_len (rs : List Int) : (doors rs).length ≤ 64 := Nat.le_trans (List.length_filter_le _ _) (regCells_len rs)
theorem regCells_none {l : List Int} (h : regOk l = false) : regCells l = [] := by simp [regCells, h]
theorem regCells_i64 {l : List Int} {c : Int × Int} (h : c ∈ regCells l) : I64 c.1 ∧ I64 c.2 := by
  have := cellOk_iff.1 (regCells_ok h)
  exact ⟨⟨by omega, by omega⟩, ⟨by omega, by omega⟩⟩
end Go.Proofs.Ytoehmocamaamcaa

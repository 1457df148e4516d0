/-
  Contracts of CornerOk and CornerCells (both): what each returns, as a function of its arguments; nothing that was there is written; no statement is proved here; no condition.
-/
import Derived.Test.YthclolooidnniaaNum
import Derived.Test.YthclolooidnniaaOwn
namespace Go.Proofs.Ythclolooidnniaa
open Go.ChangeShapes Go.WideShapes Go.ChangeAt Go.RowKit Go.Deep
set_option linter.unusedVariables false

def cornerOk (x y z : Int) : Bool := inB x 0 6 && inB y 0 6 && inB z 0 3
theorem cornerOk_iff {x y z : Int} : cornerOk x y z = true ↔ (0 ≤ x ∧ x ≤ 6) ∧ (0 ≤ y ∧ y ≤ 6) ∧ 0 ≤ z ∧ z ≤ 3 := by simp [cornerOk, inB, and_assoc]
def ccUpto (x y z : Int) (k : Nat) : List (Int × Int) := ((List.range k).filter fun (j : Nat) => decide ((j : Int) ≠ z)).map fun (j : Nat) => (x + (j : Int) % 2, y + (j : Int) / 2)
def cornerCells (x y z : Int) : List (Int × Int) := if cornerOk x y z then ccUpto x y z 4 else []
theorem ccUpto_len (x y z : Int) (k : Nat) : (ccUpto x y z k).length ≤ k := by
  unfold ccUpto
  rw [List.length_map]
  exact Nat.le_trans (List.length_filter_le _ _) (by simp)
theorem ccUpto_succ (x y z : Int) (k : Nat) : ccUpto x y z (k + 1) = ccUpto x y z k ++ (if (k : Int) = z then [] else [(x + (k : Int) % 2, y + (k : Int) / 2)]) := by
  unfold ccUpto
  rw [List.range_succ, List.filter_append, List.map_append]
  by_cases h : (k : Int) = z <;> simp [h]
end Go.Proofs.Ythclolooidnniaa

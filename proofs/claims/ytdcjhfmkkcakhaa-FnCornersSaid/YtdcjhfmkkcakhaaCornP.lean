/-
  The plain law behind FnCorners: every square of side 1, 2, 4, 8 without one cell, its corner tiles, the numbers of coverings; decided by running through all of them.
-/
import Derived.Test.YtdcjhfmkkcakhaaWith
import Derived.Test.YtdcjhfmkkcakhaaMiss
import Derived.Test.YtdcjhfmkkcakhaaCover
import Derived.Test.YtdcjhfmkkcakhaaCovC
namespace Go.Proofs.Ytdcjhfmkkcakhaa
open Go.ChangeShapes Go.WideShapes Go.ChangeAt Go.RowKit Go.Deep
set_option linter.unusedVariables false

def sideN (k : Nat) : Nat := 2 ^ k
def cornReg (k x y : Nat) : List Int := withC (rectR (sideN k) (sideN k)) x y
def cornOk (k x y : Nat) : Bool :=
  tmOk k x y && (tmL k x y).all (fun c => cornerOk c.1 c.2.1 c.2.2 && (cornerCells c.1 c.2.1 c.2.2).length == 3) && 3 * (tmL k x y).length + 1 == sideN k * sideN k
    && cornerTiling (cornReg k x y) (tmL k x y) && (decide (2 < k) || decide (1 ≤ countCorners (cornReg k x y)))
theorem corn0 : ((List.range (sideN 0)).all fun x => (List.range (sideN 0)).all fun y => cornOk 0 x y) = true := by decide +kernel
theorem corn1 : ((List.range (sideN 1)).all fun x => (List.range (sideN 1)).all fun y => cornOk 1 x y) = true := by decide +kernel
theorem corn2 : ((List.range (sideN 2)).all fun x => (List.range (sideN 2)).all fun y => cornOk 2 x y) = true := by decide +kernel
theorem corn3 : ((List.range (sideN 3)).all fun x => (List.range (sideN 3)).all fun y => cornOk 3 x y) = true := by decide +kernel
theorem corn_all {k x y : Nat} (hk : k < 4) (hx : x < sideN k) (hy : y < sideN k) : cornOk k x y = true := by
  rcases (show k = 0 ∨ k = 1 ∨ k = 2 ∨ k = 3 by omega) with rfl | rfl | rfl | rfl
  · exact List.all_eq_true.1 (List.all_eq_true.1 corn0 x (List.mem_range.2 hx)) y (List.mem_range.2 hy)
  · exact List.all_eq_true.1 (List.all_eq_true.1 corn1 x (List.mem_range.2 hx)) y (List.mem_range.2 hy)
  · exact List.all_eq_true.1 (List.all_eq_true.1 corn2 x (List.mem_range.2 hx)) y (List.mem_range.2 hy)
  · exact List.all_eq_true.1 (List.all_eq_true.1 corn3 x (List.mem_range.2 hx)) y (List.mem_range.2 hy)
theorem corn23 : countCorners (rectR 2 3) = 2 := by decide +kernel
theorem corn33 : countCorners (rectR 3 3) = 0 := by decide +kernel
end Go.Proofs.Ytdcjhfmkkcakhaa

/-
  Contracts of the functions on changed cells (covered, ChangedCells, both): what each returns, as a function of its arguments; nothing that was there is written; lists of at most 1048576.
-/
import Derived.Test.YtoehmocamaamcaaDoms
import Derived.Test.YtoehmocamaamcaaMarks
import Derived.Test.YtoehmocamaamcaaSets
import Derived.Test.YtoehmocamaamcaaIn
namespace Go.Proofs.Ytoehmocamaamcaa
open Go.ChangeShapes Go.WideShapes Go.ChangeAt Go.RowKit Go.Deep
set_option linter.unusedVariables false

def covStep (s : Nat) (d : Dm) : Nat := if domOk d.1 d.2.1 d.2.2 then s ||| setD d.1 d.2.1 d.2.2 else s
def covers (l : List Dm) : Nat := l.foldl covStep 0
theorem covers_snoc (l : List Dm) (d : Dm) : covers (l ++ [d]) = covStep (covers l) d := by simp [covers]
theorem covers_lt (l : List Dm) : covers l < 18446744073709551616 := by
  have : ∀ (l : List Dm) (s : Nat), s < 18446744073709551616 → l.foldl covStep s < 18446744073709551616 := by
    intro l
    induction l with
    | nil => intro s h; exact h
    | cons d l ih =>
      intro s h
      apply ih
      unfold covStep
      split
      · rename_i hd; exact or_lt h (setD_lt hd)
      · exact h
  exact this l 0 (by decide)
def gone (a b : List Dm) : List Dm := a.filter fun d => decide (d ∉ b)
theorem gone_snoc (a b : List Dm) (d : Dm) : gone (a ++ [d]) b = gone a b ++ (if d ∈ b then [] else [d]) := by
  unfold gone
  rw [List.filter_append]
  by_cases h : d ∈ b <;> simp [h]
theorem gone_len (a b : List Dm) : (gone a b).length ≤ a.length := List.length_filter_le _ _
def changed (a b : List Dm) : List (Int × Int) := cellsBy (covers (gone a b)).testBit 64
theorem changed_len (a b : List Dm) : (changed a b).length ≤ 64 := cellsBy_len _ _
end Go.Proofs.Ytoehmocamaamcaa

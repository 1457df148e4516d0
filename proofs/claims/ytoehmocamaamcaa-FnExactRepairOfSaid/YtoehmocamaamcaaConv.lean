/-
  Contracts of the laws' own conversions of structs (toCell, toDomino, toCorner, toPrices): each hands back the same fields and writes nothing that was there; no statement is proved here; no condition.
-/
import Derived.Test.YtoehmocamaamcaaNum
namespace Go.Proofs.Ytoehmocamaamcaa
open Go.ChangeShapes Go.WideShapes Go.ChangeAt Go.RowKit Go.Deep
set_option linter.unusedVariables false

theorem toDomino_any (x y : Int) (z : Bool) (w : World) :
    Calls Try.prog 24 #[.agg #[.int .i64 x, .int .i64 y, .bool z]] w fun e w' => e = .returned (.agg #[.int .i64 x, .int .i64 y, .bool z]) ∧ Below w.heap.size w w' := by
  go_enter Try.func24, Try.ntmps24
  go_wp2
  go_returns
  exact ⟨rfl, by go_grown⟩
end Go.Proofs.Ytoehmocamaamcaa

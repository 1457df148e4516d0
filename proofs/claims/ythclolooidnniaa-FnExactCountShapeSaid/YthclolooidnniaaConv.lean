/-
  Contracts of the laws' own conversions of structs (toCell, toDomino, toCorner, toPrices): each hands back the same fields and writes nothing that was there; no statement is proved here; no condition.
-/
import Derived.Test.YthclolooidnniaaNum
namespace Go.Proofs.Ythclolooidnniaa
open Go.ChangeShapes Go.WideShapes Go.ChangeAt Go.RowKit Go.Deep
set_option linter.unusedVariables false

theorem toCell_any (x y : Int) (w : World) :
    Calls Try.prog 41 #[.agg #[.int .i64 x, .int .i64 y]] w fun e w' => e = .returned (.agg #[.int .i64 x, .int .i64 y]) ∧ Below w.heap.size w w' := by
  go_enter Try.func41, Try.ntmps41
  go_wp2
  go_returns
  exact ⟨rfl, by go_grown⟩
end Go.Proofs.Ythclolooidnniaa

/-
  Contracts of the laws' own conversions of structs (toCell, toDomino, toCorner, toPrices): each hands back the same fields and writes nothing that was there; no statement is proved here; no condition.
-/
import Derived.Test.YtdcjhfmkkcakhaaNum
namespace Go.Proofs.Ytdcjhfmkkcakhaa
open Go.ChangeShapes Go.WideShapes Go.ChangeAt Go.RowKit Go.Deep
set_option linter.unusedVariables false

end Go.Proofs.Ytdcjhfmkkcakhaa

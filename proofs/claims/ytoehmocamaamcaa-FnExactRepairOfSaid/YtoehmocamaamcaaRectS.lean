/-
  Contract of the reference's Rectangle: what it returns, as a function of its arguments; nothing that was there is written; no condition.
-/
import Derived.Test.YtoehmocamaamcaaRect
namespace Go.Proofs.Ytoehmocamaamcaa
open Go.ChangeShapes Go.WideShapes Go.ChangeAt Go.RowKit Go.Deep
set_option linter.unusedVariables false
end Go.Proofs.Ytoehmocamaamcaa

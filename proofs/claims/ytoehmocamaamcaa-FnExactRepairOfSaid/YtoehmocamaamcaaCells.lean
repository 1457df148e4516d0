/-
  Contracts of functions over lists of cells (the laws' own copies, comparisons and marks): what each returns, as a function of the lists; what may be written is said; lists of at most 1048576.
-/
import Derived.Test.YtoehmocamaamcaaCell
import Derived.Test.YtoehmocamaamcaaConv
import Derived.Test.YtoehmocamaamcaaInts
import Derived.Test.YtoehmocamaamcaaOwn
namespace Go.Proofs.Ytoehmocamaamcaa
open Go.ChangeShapes Go.WideShapes Go.ChangeAt Go.RowKit Go.Deep
set_option linter.unusedVariables false

end Go.Proofs.Ytoehmocamaamcaa

/-
  Contracts of functions over lists of cells (the laws' own copies, comparisons and marks): what each returns, as a function of the lists; what may be written is said; lists of at most 1048576.
-/
import Derived.Test.YtdcjhfmkkcakhaaCell
import Derived.Test.YtdcjhfmkkcakhaaConv
import Derived.Test.YtdcjhfmkkcakhaaInts
import Derived.Test.YtdcjhfmkkcakhaaOwn
namespace Go.Proofs.Ytdcjhfmkkcakhaa
open Go.ChangeShapes Go.WideShapes Go.ChangeAt Go.RowKit Go.Deep
set_option linter.unusedVariables false

end Go.Proofs.Ytdcjhfmkkcakhaa

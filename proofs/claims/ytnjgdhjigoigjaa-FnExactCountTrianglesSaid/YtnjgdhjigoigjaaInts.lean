/-
  Contracts of functions over slices of integers (toIntS, eqIntS, allWithin, isStrict): what each returns, as a function of the list; nothing that was there is written; lists of at most 1048576 numbers.
-/
import Derived.Test.YtnjgdhjigoigjaaNum
namespace Go.Proofs.Ytnjgdhjigoigjaa
open Go.ChangeShapes Go.WideShapes Go.ChangeAt Go.RowKit Go.Deep
set_option linter.unusedVariables false

theorem info_int : (Try.prog.info? 3).map (fun i => (i.zero, i.size, i.bytes)) = some (some (.int .i64 0), 1, 8) := by kernel_rfl

end Go.Proofs.Ytnjgdhjigoigjaa

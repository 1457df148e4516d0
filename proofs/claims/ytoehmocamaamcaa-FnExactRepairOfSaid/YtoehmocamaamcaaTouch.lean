/-
  Contracts of DoOverlap (reference) and DoTouch (both): what each returns, as a function of its arguments; nothing that was there is written; no statement is proved here; no condition.
-/
import Derived.Test.YtoehmocamaamcaaDomino
namespace Go.Proofs.Ytoehmocamaamcaa
open Go.ChangeShapes Go.WideShapes Go.ChangeAt Go.RowKit Go.Deep
set_option linter.unusedVariables false

def touch (x y : Int) (z : Bool) (a b : Int) (c : Bool) : Bool :=
  domOk x y z && domOk a b c && !ovl x y z a b c && (nbr x y a b || nbr x y (sndX a c) (sndY b c) || nbr (sndX x z) (sndY y z) a b || nbr (sndX x z) (sndY y z) (sndX a c) (sndY b c))
end Go.Proofs.Ytoehmocamaamcaa

/-
  No cell of these rows narrows 'for every input' (looked for: loops, veiled, ifaces, maps, wideKeys, modest, calm, conditions, laid).
  DERIVED. THE GIVEN ROWS OF THIS SEAT. 12 by the template 'for every input the law returns true; each argument reads behind the call as it read before'; 0 by the template 'total and deterministic' (their statements: YtmhgifdnnlijcaaTotals.lean).
  GIVEN WITH THE SEED: the statements are not yours to turn. If you find one false, say at which input.
  Laid BY PROGRAM, IN A SANDBOX (cutbox-rows.mjs): the forced cells as the released guide's own fill.sh prints them over the translation e328a063b2f58dd4… (all of the seat's roots in one cut). By AI agents, Wed Nov 11 2026. No macro, syntax, notation, axiom, sorry.
-/
import Derived.Test.YtmhgifdnnlijcaaChecked
import GoSem.Claim
import GoSem.ClaimJoined
import GoSem.ClaimMapViews
import Derived.JoinedTies
import Derived.KernelRfl
namespace Go.Proofs.Ytmhgifdnnlijcaa
/- THE CELL 'sum', in the pinned program and in every row, IS THE sha256 OF THE DUMP (.gsa) THAT YtmhgifdnnlijcaaProg.lean LOADS. Nothing in Lean hashes anything: it is a label: what it is worth is what the hold of that sum in a sandbox is worth. -/
noncomputable def Try.pinned : Pinned := { name := "ytmhgifdnnlijcaa", sum := "e328a063b2f58dd4665a5042e4d1b38bbdc15b63c7fd0c292bde65368f5ed769", checked := Try.checked }
namespace Rows
def none {H : Type} : Left H := { results := [], args := [] }

/-- 'laws.FnExactGreedyColors': WHATEVER THE INPUT: true; the input reads as it did. -/
def fnExactGreedyColorsSpec : ChangeSpec := { name := "fnExactGreedyColors", fn := fun _ => fun
  | [d] => { results := [.lit (.bool true)], args := [d] }
  | _ => none }
def fnExactGreedyColorsRow : OpenClaim := { program := "ytmhgifdnnlijcaa", sum := "e328a063b2f58dd4665a5042e4d1b38bbdc15b63c7fd0c292bde65368f5ed769", func := "loop.example/g03300/laws.FnExactGreedyColors", spec := "fnExactGreedyColors", apart := false }
def FnExactGreedyColorsSaid : Prop := fnExactGreedyColorsRow.holds Try.pinned (OpenSpec.ofChange fnExactGreedyColorsSpec)

/-- ITS FALSE NEIGHBOUR: 'it returns false'. Refute it at one input. -/
def fnExactGreedyColorsWrong : ChangeSpec := { name := "fnExactGreedyColors", fn := fun _ => fun
  | [d] => { results := [.lit (.bool false)], args := [d] }
  | _ => none }
def FnExactGreedyColorsWrongFalsely : Prop := fnExactGreedyColorsRow.holds Try.pinned (OpenSpec.ofChange fnExactGreedyColorsWrong)

/-- 'laws.FnExactIsCornerTiling': WHATEVER THE INPUT: true; the input reads as it did. -/
def fnExactIsCornerTilingSpec : ChangeSpec := { name := "fnExactIsCornerTiling", fn := fun _ => fun
  | [d1, d2] => { results := [.lit (.bool true)], args := [d1, d2] }
  | _ => none }
def fnExactIsCornerTilingRow : OpenClaim := { program := "ytmhgifdnnlijcaa", sum := "e328a063b2f58dd4665a5042e4d1b38bbdc15b63c7fd0c292bde65368f5ed769", func := "loop.example/g03300/laws.FnExactIsCornerTiling", spec := "fnExactIsCornerTiling", apart := false }
def FnExactIsCornerTilingSaid : Prop := fnExactIsCornerTilingRow.holds Try.pinned (OpenSpec.ofChange fnExactIsCornerTilingSpec)

/-- ITS FALSE NEIGHBOUR: 'it returns false'. Refute it at one input. -/
def fnExactIsCornerTilingWrong : ChangeSpec := { name := "fnExactIsCornerTiling", fn := fun _ => fun
  | [d1, d2] => { results := [.lit (.bool false)], args := [d1, d2] }
  | _ => none }
def FnExactIsCornerTilingWrongFalsely : Prop := fnExactIsCornerTilingRow.holds Try.pinned (OpenSpec.ofChange fnExactIsCornerTilingWrong)

/-- 'laws.FnExactAreProper': WHATEVER THE INPUT: true; the input reads as it did. -/
def fnExactAreProperSpec : ChangeSpec := { name := "fnExactAreProper", fn := fun _ => fun
  | [d1, d2] => { results := [.lit (.bool true)], args := [d1, d2] }
  | _ => none }
def fnExactAreProperRow : OpenClaim := { program := "ytmhgifdnnlijcaa", sum := "e328a063b2f58dd4665a5042e4d1b38bbdc15b63c7fd0c292bde65368f5ed769", func := "loop.example/g03300/laws.FnExactAreProper", spec := "fnExactAreProper", apart := false }
def FnExactAreProperSaid : Prop := fnExactAreProperRow.holds Try.pinned (OpenSpec.ofChange fnExactAreProperSpec)

/-- ITS FALSE NEIGHBOUR: 'it returns false'. Refute it at one input. -/
def fnExactAreProperWrong : ChangeSpec := { name := "fnExactAreProper", fn := fun _ => fun
  | [d1, d2] => { results := [.lit (.bool false)], args := [d1, d2] }
  | _ => none }
def FnExactAreProperWrongFalsely : Prop := fnExactAreProperRow.holds Try.pinned (OpenSpec.ofChange fnExactAreProperWrong)

/-- 'laws.FnExactDoorsOf': WHATEVER THE INPUT: true; the input reads as it did. -/
def fnExactDoorsOfSpec : ChangeSpec := { name := "fnExactDoorsOf", fn := fun _ => fun
  | [d] => { results := [.lit (.bool true)], args := [d] }
  | _ => none }
def fnExactDoorsOfRow : OpenClaim := { program := "ytmhgifdnnlijcaa", sum := "e328a063b2f58dd4665a5042e4d1b38bbdc15b63c7fd0c292bde65368f5ed769", func := "loop.example/g03300/laws.FnExactDoorsOf", spec := "fnExactDoorsOf", apart := false }
def FnExactDoorsOfSaid : Prop := fnExactDoorsOfRow.holds Try.pinned (OpenSpec.ofChange fnExactDoorsOfSpec)

/-- ITS FALSE NEIGHBOUR: 'it returns false'. Refute it at one input. -/
def fnExactDoorsOfWrong : ChangeSpec := { name := "fnExactDoorsOf", fn := fun _ => fun
  | [d] => { results := [.lit (.bool false)], args := [d] }
  | _ => none }
def FnExactDoorsOfWrongFalsely : Prop := fnExactDoorsOfRow.holds Try.pinned (OpenSpec.ofChange fnExactDoorsOfWrong)

/-- 'laws.FnExactFewestColors': WHATEVER THE INPUT: true; the input reads as it did. -/
def fnExactFewestColorsSpec : ChangeSpec := { name := "fnExactFewestColors", fn := fun _ => fun
  | [d] => { results := [.lit (.bool true)], args := [d] }
  | _ => none }
def fnExactFewestColorsRow : OpenClaim := { program := "ytmhgifdnnlijcaa", sum := "e328a063b2f58dd4665a5042e4d1b38bbdc15b63c7fd0c292bde65368f5ed769", func := "loop.example/g03300/laws.FnExactFewestColors", spec := "fnExactFewestColors", unfollowed := true, recurses := true, apart := false }
def FnExactFewestColorsSaid : Prop := fnExactFewestColorsRow.holds Try.pinned (OpenSpec.ofChange fnExactFewestColorsSpec)

/-- ITS FALSE NEIGHBOUR: 'it returns false'. Refute it at one input. -/
def fnExactFewestColorsWrong : ChangeSpec := { name := "fnExactFewestColors", fn := fun _ => fun
  | [d] => { results := [.lit (.bool false)], args := [d] }
  | _ => none }
def FnExactFewestColorsWrongFalsely : Prop := fnExactFewestColorsRow.holds Try.pinned (OpenSpec.ofChange fnExactFewestColorsWrong)

/-- 'laws.FnExactCountCorners': WHATEVER THE INPUT: true; the input reads as it did. -/
def fnExactCountCornersSpec : ChangeSpec := { name := "fnExactCountCorners", fn := fun _ => fun
  | [d] => { results := [.lit (.bool true)], args := [d] }
  | _ => none }
def fnExactCountCornersRow : OpenClaim := { program := "ytmhgifdnnlijcaa", sum := "e328a063b2f58dd4665a5042e4d1b38bbdc15b63c7fd0c292bde65368f5ed769", func := "loop.example/g03300/laws.FnExactCountCorners", spec := "fnExactCountCorners", unfollowed := true, recurses := true, apart := false }
def FnExactCountCornersSaid : Prop := fnExactCountCornersRow.holds Try.pinned (OpenSpec.ofChange fnExactCountCornersSpec)

/-- ITS FALSE NEIGHBOUR: 'it returns false'. Refute it at one input. -/
def fnExactCountCornersWrong : ChangeSpec := { name := "fnExactCountCorners", fn := fun _ => fun
  | [d] => { results := [.lit (.bool false)], args := [d] }
  | _ => none }
def FnExactCountCornersWrongFalsely : Prop := fnExactCountCornersRow.holds Try.pinned (OpenSpec.ofChange fnExactCountCornersWrong)

/-- 'laws.FnExactColorWith': WHATEVER THE INPUT: true; the input reads as it did. -/
def fnExactColorWithSpec : ChangeSpec := { name := "fnExactColorWith", fn := fun _ => fun
  | [d1, d2] => { results := [.lit (.bool true)], args := [d1, d2] }
  | _ => none }
def fnExactColorWithRow : OpenClaim := { program := "ytmhgifdnnlijcaa", sum := "e328a063b2f58dd4665a5042e4d1b38bbdc15b63c7fd0c292bde65368f5ed769", func := "loop.example/g03300/laws.FnExactColorWith", spec := "fnExactColorWith", unfollowed := true, recurses := true, apart := false }
def FnExactColorWithSaid : Prop := fnExactColorWithRow.holds Try.pinned (OpenSpec.ofChange fnExactColorWithSpec)

/-- ITS FALSE NEIGHBOUR: 'it returns false'. Refute it at one input. -/
def fnExactColorWithWrong : ChangeSpec := { name := "fnExactColorWith", fn := fun _ => fun
  | [d1, d2] => { results := [.lit (.bool false)], args := [d1, d2] }
  | _ => none }
def FnExactColorWithWrongFalsely : Prop := fnExactColorWithRow.holds Try.pinned (OpenSpec.ofChange fnExactColorWithWrong)

/-- 'laws.FnColors': WHATEVER THE INPUT: true; the input reads as it did. -/
def fnColorsSpec : ChangeSpec := { name := "fnColors", fn := fun _ => fun
  | [d] => { results := [.lit (.bool true)], args := [d] }
  | _ => none }
def fnColorsRow : OpenClaim := { program := "ytmhgifdnnlijcaa", sum := "e328a063b2f58dd4665a5042e4d1b38bbdc15b63c7fd0c292bde65368f5ed769", func := "loop.example/g03300/laws.FnColors", spec := "fnColors", unfollowed := true, recurses := true, apart := false }
def FnColorsSaid : Prop := fnColorsRow.holds Try.pinned (OpenSpec.ofChange fnColorsSpec)

/-- ITS FALSE NEIGHBOUR: 'it returns false'. Refute it at one input. -/
def fnColorsWrong : ChangeSpec := { name := "fnColors", fn := fun _ => fun
  | [d] => { results := [.lit (.bool false)], args := [d] }
  | _ => none }
def FnColorsWrongFalsely : Prop := fnColorsRow.holds Try.pinned (OpenSpec.ofChange fnColorsWrong)

/-- 'laws.FnExactCanLay': WHATEVER THE INPUT: true; the input reads as it did. -/
def fnExactCanLaySpec : ChangeSpec := { name := "fnExactCanLay", fn := fun _ => fun
  | [d1, d2, d3, d4] => { results := [.lit (.bool true)], args := [d1, d2, d3, d4] }
  | _ => none }
def fnExactCanLayRow : OpenClaim := { program := "ytmhgifdnnlijcaa", sum := "e328a063b2f58dd4665a5042e4d1b38bbdc15b63c7fd0c292bde65368f5ed769", func := "loop.example/g03300/laws.FnExactCanLay", spec := "fnExactCanLay", apart := false }
def FnExactCanLaySaid : Prop := fnExactCanLayRow.holds Try.pinned (OpenSpec.ofChange fnExactCanLaySpec)

/-- ITS FALSE NEIGHBOUR: 'it returns false'. Refute it at one input. -/
def fnExactCanLayWrong : ChangeSpec := { name := "fnExactCanLay", fn := fun _ => fun
  | [d1, d2, d3, d4] => { results := [.lit (.bool false)], args := [d1, d2, d3, d4] }
  | _ => none }
def FnExactCanLayWrongFalsely : Prop := fnExactCanLayRow.holds Try.pinned (OpenSpec.ofChange fnExactCanLayWrong)

/-- 'laws.FnExactIsLayingOrder': WHATEVER THE INPUT: true; the input reads as it did. -/
def fnExactIsLayingOrderSpec : ChangeSpec := { name := "fnExactIsLayingOrder", fn := fun _ => fun
  | [d1, d2, d3] => { results := [.lit (.bool true)], args := [d1, d2, d3] }
  | _ => none }
def fnExactIsLayingOrderRow : OpenClaim := { program := "ytmhgifdnnlijcaa", sum := "e328a063b2f58dd4665a5042e4d1b38bbdc15b63c7fd0c292bde65368f5ed769", func := "loop.example/g03300/laws.FnExactIsLayingOrder", spec := "fnExactIsLayingOrder", apart := false }
def FnExactIsLayingOrderSaid : Prop := fnExactIsLayingOrderRow.holds Try.pinned (OpenSpec.ofChange fnExactIsLayingOrderSpec)

/-- ITS FALSE NEIGHBOUR: 'it returns false'. Refute it at one input. -/
def fnExactIsLayingOrderWrong : ChangeSpec := { name := "fnExactIsLayingOrder", fn := fun _ => fun
  | [d1, d2, d3] => { results := [.lit (.bool false)], args := [d1, d2, d3] }
  | _ => none }
def FnExactIsLayingOrderWrongFalsely : Prop := fnExactIsLayingOrderRow.holds Try.pinned (OpenSpec.ofChange fnExactIsLayingOrderWrong)

/-- 'laws.FnExactFindLaying': WHATEVER THE INPUT: true; the input reads as it did. -/
def fnExactFindLayingSpec : ChangeSpec := { name := "fnExactFindLaying", fn := fun _ => fun
  | [d1, d2, d3] => { results := [.lit (.bool true)], args := [d1, d2, d3] }
  | _ => none }
def fnExactFindLayingRow : OpenClaim := { program := "ytmhgifdnnlijcaa", sum := "e328a063b2f58dd4665a5042e4d1b38bbdc15b63c7fd0c292bde65368f5ed769", func := "loop.example/g03300/laws.FnExactFindLaying", spec := "fnExactFindLaying", apart := false }
def FnExactFindLayingSaid : Prop := fnExactFindLayingRow.holds Try.pinned (OpenSpec.ofChange fnExactFindLayingSpec)

/-- ITS FALSE NEIGHBOUR: 'it returns false'. Refute it at one input. -/
def fnExactFindLayingWrong : ChangeSpec := { name := "fnExactFindLaying", fn := fun _ => fun
  | [d1, d2, d3] => { results := [.lit (.bool false)], args := [d1, d2, d3] }
  | _ => none }
def FnExactFindLayingWrongFalsely : Prop := fnExactFindLayingRow.holds Try.pinned (OpenSpec.ofChange fnExactFindLayingWrong)

/-- 'laws.FnLayings': WHATEVER THE INPUT: true; the input reads as it did. -/
def fnLayingsSpec : ChangeSpec := { name := "fnLayings", fn := fun _ => fun
  | [d] => { results := [.lit (.bool true)], args := [d] }
  | _ => none }
def fnLayingsRow : OpenClaim := { program := "ytmhgifdnnlijcaa", sum := "e328a063b2f58dd4665a5042e4d1b38bbdc15b63c7fd0c292bde65368f5ed769", func := "loop.example/g03300/laws.FnLayings", spec := "fnLayings", recurses := true, apart := false }
def FnLayingsSaid : Prop := fnLayingsRow.holds Try.pinned (OpenSpec.ofChange fnLayingsSpec)

/-- ITS FALSE NEIGHBOUR: 'it returns false'. Refute it at one input. -/
def fnLayingsWrong : ChangeSpec := { name := "fnLayings", fn := fun _ => fun
  | [d] => { results := [.lit (.bool false)], args := [d] }
  | _ => none }
def FnLayingsWrongFalsely : Prop := fnLayingsRow.holds Try.pinned (OpenSpec.ofChange fnLayingsWrong)

/- THE SECOND FORM. 'bulk': how many values and letters a reading holds, each counted each time it is reached (what is shared counts as often as it is met; a slice's spare places count too). A statement '..UptoSaid' is the law's where the arguments, and the package variables that the reading takes, are together of bulk at most 1048576: NARROWER than '..Said'. Prove '..Said' where nothing that the law and all that it calls make is longer than what came in: it says more and counts as full. Else prove '..UptoSaid'. A law counts once. -/
mutual
def uptoBulk {H : Type} : DataW H → Nat
  | .lit (.string bytes) => bytes.length + 1
  | .lit _ => 1
  | .nil => 1
  | .ptr d => uptoBulk d + 1
  | .slice elems spare => uptoBulkAll elems + uptoBulkAll spare + 1
  | .agg parts => uptoBulkAll parts + 1
  | .iface _ d => uptoBulk d + 1
  | .map entries => uptoBulkEntries entries + 1
  | .held _ => 1
def uptoBulkAll {H : Type} : List (DataW H) → Nat
  | [] => 0
  | d :: r => uptoBulk d + uptoBulkAll r
def uptoBulkEntries {H : Type} : List (Lit × DataW H) → Nat
  | [] => 0
  | x :: r => uptoBulkEntry x + uptoBulkEntries r
def uptoBulkEntry {H : Type} : Lit × DataW H → Nat
  | (.string bytes, d) => bytes.length + uptoBulk d + 1
  | (_, d) => uptoBulk d + 1
 end
def uptoSmall : (H : Type) → List (DataW H) → Bool := fun _ ds => decide (uptoBulkAll ds ≤ 1048576)
def OpenSpec.upto (s : _root_.Go.ChangeSpec) : _root_.Go.OpenSpec := { _root_.Go.OpenSpec.ofChange s with cond := some uptoSmall }

/-- 'laws.FnExactGreedyColors', WHERE WHAT IT READS IS OF BULK AT MOST 1048576: true; the input reads as it did. -/
def fnExactGreedyColorsUptoRow : OpenClaim := { program := "ytmhgifdnnlijcaa", sum := "e328a063b2f58dd4665a5042e4d1b38bbdc15b63c7fd0c292bde65368f5ed769", func := "loop.example/g03300/laws.FnExactGreedyColors", spec := "fnExactGreedyColors", apart := false, narrowed := true }
def FnExactGreedyColorsUptoSaid : Prop := fnExactGreedyColorsUptoRow.holds Try.pinned (OpenSpec.upto fnExactGreedyColorsSpec)

/-- 'laws.FnExactIsCornerTiling', WHERE WHAT IT READS IS OF BULK AT MOST 1048576: true; the input reads as it did. -/
def fnExactIsCornerTilingUptoRow : OpenClaim := { program := "ytmhgifdnnlijcaa", sum := "e328a063b2f58dd4665a5042e4d1b38bbdc15b63c7fd0c292bde65368f5ed769", func := "loop.example/g03300/laws.FnExactIsCornerTiling", spec := "fnExactIsCornerTiling", apart := false, narrowed := true }
def FnExactIsCornerTilingUptoSaid : Prop := fnExactIsCornerTilingUptoRow.holds Try.pinned (OpenSpec.upto fnExactIsCornerTilingSpec)

/-- 'laws.FnExactAreProper', WHERE WHAT IT READS IS OF BULK AT MOST 1048576: true; the input reads as it did. -/
def fnExactAreProperUptoRow : OpenClaim := { program := "ytmhgifdnnlijcaa", sum := "e328a063b2f58dd4665a5042e4d1b38bbdc15b63c7fd0c292bde65368f5ed769", func := "loop.example/g03300/laws.FnExactAreProper", spec := "fnExactAreProper", apart := false, narrowed := true }
def FnExactAreProperUptoSaid : Prop := fnExactAreProperUptoRow.holds Try.pinned (OpenSpec.upto fnExactAreProperSpec)

/-- 'laws.FnExactDoorsOf', WHERE WHAT IT READS IS OF BULK AT MOST 1048576: true; the input reads as it did. -/
def fnExactDoorsOfUptoRow : OpenClaim := { program := "ytmhgifdnnlijcaa", sum := "e328a063b2f58dd4665a5042e4d1b38bbdc15b63c7fd0c292bde65368f5ed769", func := "loop.example/g03300/laws.FnExactDoorsOf", spec := "fnExactDoorsOf", apart := false, narrowed := true }
def FnExactDoorsOfUptoSaid : Prop := fnExactDoorsOfUptoRow.holds Try.pinned (OpenSpec.upto fnExactDoorsOfSpec)

/-- 'laws.FnExactFewestColors', WHERE WHAT IT READS IS OF BULK AT MOST 1048576: true; the input reads as it did. -/
def fnExactFewestColorsUptoRow : OpenClaim := { program := "ytmhgifdnnlijcaa", sum := "e328a063b2f58dd4665a5042e4d1b38bbdc15b63c7fd0c292bde65368f5ed769", func := "loop.example/g03300/laws.FnExactFewestColors", spec := "fnExactFewestColors", unfollowed := true, recurses := true, apart := false, narrowed := true }
def FnExactFewestColorsUptoSaid : Prop := fnExactFewestColorsUptoRow.holds Try.pinned (OpenSpec.upto fnExactFewestColorsSpec)

/-- 'laws.FnExactCountCorners', WHERE WHAT IT READS IS OF BULK AT MOST 1048576: true; the input reads as it did. -/
def fnExactCountCornersUptoRow : OpenClaim := { program := "ytmhgifdnnlijcaa", sum := "e328a063b2f58dd4665a5042e4d1b38bbdc15b63c7fd0c292bde65368f5ed769", func := "loop.example/g03300/laws.FnExactCountCorners", spec := "fnExactCountCorners", unfollowed := true, recurses := true, apart := false, narrowed := true }
def FnExactCountCornersUptoSaid : Prop := fnExactCountCornersUptoRow.holds Try.pinned (OpenSpec.upto fnExactCountCornersSpec)

/-- 'laws.FnExactColorWith', WHERE WHAT IT READS IS OF BULK AT MOST 1048576: true; the input reads as it did. -/
def fnExactColorWithUptoRow : OpenClaim := { program := "ytmhgifdnnlijcaa", sum := "e328a063b2f58dd4665a5042e4d1b38bbdc15b63c7fd0c292bde65368f5ed769", func := "loop.example/g03300/laws.FnExactColorWith", spec := "fnExactColorWith", unfollowed := true, recurses := true, apart := false, narrowed := true }
def FnExactColorWithUptoSaid : Prop := fnExactColorWithUptoRow.holds Try.pinned (OpenSpec.upto fnExactColorWithSpec)

/-- 'laws.FnColors', WHERE WHAT IT READS IS OF BULK AT MOST 1048576: true; the input reads as it did. -/
def fnColorsUptoRow : OpenClaim := { program := "ytmhgifdnnlijcaa", sum := "e328a063b2f58dd4665a5042e4d1b38bbdc15b63c7fd0c292bde65368f5ed769", func := "loop.example/g03300/laws.FnColors", spec := "fnColors", unfollowed := true, recurses := true, apart := false, narrowed := true }
def FnColorsUptoSaid : Prop := fnColorsUptoRow.holds Try.pinned (OpenSpec.upto fnColorsSpec)

/-- 'laws.FnExactCanLay', WHERE WHAT IT READS IS OF BULK AT MOST 1048576: true; the input reads as it did. -/
def fnExactCanLayUptoRow : OpenClaim := { program := "ytmhgifdnnlijcaa", sum := "e328a063b2f58dd4665a5042e4d1b38bbdc15b63c7fd0c292bde65368f5ed769", func := "loop.example/g03300/laws.FnExactCanLay", spec := "fnExactCanLay", apart := false, narrowed := true }
def FnExactCanLayUptoSaid : Prop := fnExactCanLayUptoRow.holds Try.pinned (OpenSpec.upto fnExactCanLaySpec)

/-- 'laws.FnExactIsLayingOrder', WHERE WHAT IT READS IS OF BULK AT MOST 1048576: true; the input reads as it did. -/
def fnExactIsLayingOrderUptoRow : OpenClaim := { program := "ytmhgifdnnlijcaa", sum := "e328a063b2f58dd4665a5042e4d1b38bbdc15b63c7fd0c292bde65368f5ed769", func := "loop.example/g03300/laws.FnExactIsLayingOrder", spec := "fnExactIsLayingOrder", apart := false, narrowed := true }
def FnExactIsLayingOrderUptoSaid : Prop := fnExactIsLayingOrderUptoRow.holds Try.pinned (OpenSpec.upto fnExactIsLayingOrderSpec)

/-- 'laws.FnExactFindLaying', WHERE WHAT IT READS IS OF BULK AT MOST 1048576: true; the input reads as it did. -/
def fnExactFindLayingUptoRow : OpenClaim := { program := "ytmhgifdnnlijcaa", sum := "e328a063b2f58dd4665a5042e4d1b38bbdc15b63c7fd0c292bde65368f5ed769", func := "loop.example/g03300/laws.FnExactFindLaying", spec := "fnExactFindLaying", apart := false, narrowed := true }
def FnExactFindLayingUptoSaid : Prop := fnExactFindLayingUptoRow.holds Try.pinned (OpenSpec.upto fnExactFindLayingSpec)

/-- 'laws.FnLayings', WHERE WHAT IT READS IS OF BULK AT MOST 1048576: true; the input reads as it did. -/
def fnLayingsUptoRow : OpenClaim := { program := "ytmhgifdnnlijcaa", sum := "e328a063b2f58dd4665a5042e4d1b38bbdc15b63c7fd0c292bde65368f5ed769", func := "loop.example/g03300/laws.FnLayings", spec := "fnLayings", recurses := true, apart := false, narrowed := true }
def FnLayingsUptoSaid : Prop := fnLayingsUptoRow.holds Try.pinned (OpenSpec.upto fnLayingsSpec)

end Rows
end Go.Proofs.Ytmhgifdnnlijcaa

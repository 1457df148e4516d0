/-
  No cell of these rows narrows 'for every input' (looked for: loops, veiled, ifaces, maps, wideKeys, modest, calm, conditions, laid).
  DERIVED. THE GIVEN ROWS OF THIS SEAT. 12 by the template 'for every input the law returns true; each argument reads behind the call as it read before'; 0 by the template 'total and deterministic' (their statements: YtokclhiecaffgaaTotals.lean).
  GIVEN WITH THE SEED: the statements are not yours to turn. If you find one false, say at which input.
  Laid BY PROGRAM, IN A SANDBOX (cutbox-rows.mjs): the forced cells as the released guide's own fill.sh prints them over the translation 412293ac338cb597… (all of the seat's roots in one cut). By AI agents, Wed Nov 11 2026. No macro, syntax, notation, axiom, sorry.
-/
import Derived.Test.YtokclhiecaffgaaChecked
import GoSem.Claim
import GoSem.ClaimJoined
import GoSem.ClaimMapViews
import Derived.JoinedTies
import Derived.KernelRfl
namespace Go.Proofs.Ytokclhiecaffgaa
/- THE CELL 'sum', in the pinned program and in every row, IS THE sha256 OF THE DUMP (.gsa) THAT YtokclhiecaffgaaProg.lean LOADS. Nothing in Lean hashes anything: it is a label: what it is worth is what the hold of that sum in a sandbox is worth. -/
noncomputable def Try.pinned : Pinned := { name := "ytokclhiecaffgaa", sum := "412293ac338cb5978fb4e801874a461df77e0fec2958c51e75e53dcb4f700a1c", checked := Try.checked }
namespace Rows
def none {H : Type} : Left H := { results := [], args := [] }

/-- 'laws.FnExactCountUnder': WHATEVER THE INPUT: true; the input reads as it did. -/
def fnExactCountUnderSpec : ChangeSpec := { name := "fnExactCountUnder", fn := fun _ => fun
  | [d] => { results := [.lit (.bool true)], args := [d] }
  | _ => none }
def fnExactCountUnderRow : OpenClaim := { program := "ytokclhiecaffgaa", sum := "412293ac338cb5978fb4e801874a461df77e0fec2958c51e75e53dcb4f700a1c", func := "loop.example/g03300/laws.FnExactCountUnder", spec := "fnExactCountUnder", unfollowed := true, recurses := true, apart := false }
def FnExactCountUnderSaid : Prop := fnExactCountUnderRow.holds Try.pinned (OpenSpec.ofChange fnExactCountUnderSpec)

/-- ITS FALSE NEIGHBOUR: 'it returns false'. Refute it at one input. -/
def fnExactCountUnderWrong : ChangeSpec := { name := "fnExactCountUnder", fn := fun _ => fun
  | [d] => { results := [.lit (.bool false)], args := [d] }
  | _ => none }
def FnExactCountUnderWrongFalsely : Prop := fnExactCountUnderRow.holds Try.pinned (OpenSpec.ofChange fnExactCountUnderWrong)

/-- 'laws.FnExactStripePattern': WHATEVER THE INPUT: true; the input reads as it did. -/
def fnExactStripePatternSpec : ChangeSpec := { name := "fnExactStripePattern", fn := fun _ => fun
  | [d] => { results := [.lit (.bool true)], args := [d] }
  | _ => none }
def fnExactStripePatternRow : OpenClaim := { program := "ytokclhiecaffgaa", sum := "412293ac338cb5978fb4e801874a461df77e0fec2958c51e75e53dcb4f700a1c", func := "loop.example/g03300/laws.FnExactStripePattern", spec := "fnExactStripePattern", apart := false }
def FnExactStripePatternSaid : Prop := fnExactStripePatternRow.holds Try.pinned (OpenSpec.ofChange fnExactStripePatternSpec)

/-- ITS FALSE NEIGHBOUR: 'it returns false'. Refute it at one input. -/
def fnExactStripePatternWrong : ChangeSpec := { name := "fnExactStripePattern", fn := fun _ => fun
  | [d] => { results := [.lit (.bool false)], args := [d] }
  | _ => none }
def FnExactStripePatternWrongFalsely : Prop := fnExactStripePatternRow.holds Try.pinned (OpenSpec.ofChange fnExactStripePatternWrong)

/-- 'laws.FnExactCountLong': WHATEVER THE INPUT: true; the input reads as it did. -/
def fnExactCountLongSpec : ChangeSpec := { name := "fnExactCountLong", fn := fun _ => fun
  | [d1, d2, d3] => { results := [.lit (.bool true)], args := [d1, d2, d3] }
  | _ => none }
def fnExactCountLongRow : OpenClaim := { program := "ytokclhiecaffgaa", sum := "412293ac338cb5978fb4e801874a461df77e0fec2958c51e75e53dcb4f700a1c", func := "loop.example/g03300/laws.FnExactCountLong", spec := "fnExactCountLong", unfollowed := true, recurses := true, apart := false }
def FnExactCountLongSaid : Prop := fnExactCountLongRow.holds Try.pinned (OpenSpec.ofChange fnExactCountLongSpec)

/-- ITS FALSE NEIGHBOUR: 'it returns false'. Refute it at one input. -/
def fnExactCountLongWrong : ChangeSpec := { name := "fnExactCountLong", fn := fun _ => fun
  | [d1, d2, d3] => { results := [.lit (.bool false)], args := [d1, d2, d3] }
  | _ => none }
def FnExactCountLongWrongFalsely : Prop := fnExactCountLongRow.holds Try.pinned (OpenSpec.ofChange fnExactCountLongWrong)

/-- 'laws.FnExactTileMissing': WHATEVER THE INPUT: true; the input reads as it did. -/
def fnExactTileMissingSpec : ChangeSpec := { name := "fnExactTileMissing", fn := fun _ => fun
  | [d1, d2] => { results := [.lit (.bool true)], args := [d1, d2] }
  | _ => none }
def fnExactTileMissingRow : OpenClaim := { program := "ytokclhiecaffgaa", sum := "412293ac338cb5978fb4e801874a461df77e0fec2958c51e75e53dcb4f700a1c", func := "loop.example/g03300/laws.FnExactTileMissing", spec := "fnExactTileMissing", recurses := true, apart := false }
def FnExactTileMissingSaid : Prop := fnExactTileMissingRow.holds Try.pinned (OpenSpec.ofChange fnExactTileMissingSpec)

/-- ITS FALSE NEIGHBOUR: 'it returns false'. Refute it at one input. -/
def fnExactTileMissingWrong : ChangeSpec := { name := "fnExactTileMissing", fn := fun _ => fun
  | [d1, d2] => { results := [.lit (.bool false)], args := [d1, d2] }
  | _ => none }
def FnExactTileMissingWrongFalsely : Prop := fnExactTileMissingRow.holds Try.pinned (OpenSpec.ofChange fnExactTileMissingWrong)

/-- 'laws.FnExactIsTriangle': WHATEVER THE INPUT: true; the input reads as it did. -/
def fnExactIsTriangleSpec : ChangeSpec := { name := "fnExactIsTriangle", fn := fun _ => fun
  | [d] => { results := [.lit (.bool true)], args := [d] }
  | _ => none }
def fnExactIsTriangleRow : OpenClaim := { program := "ytokclhiecaffgaa", sum := "412293ac338cb5978fb4e801874a461df77e0fec2958c51e75e53dcb4f700a1c", func := "loop.example/g03300/laws.FnExactIsTriangle", spec := "fnExactIsTriangle", apart := false }
def FnExactIsTriangleSaid : Prop := fnExactIsTriangleRow.holds Try.pinned (OpenSpec.ofChange fnExactIsTriangleSpec)

/-- ITS FALSE NEIGHBOUR: 'it returns false'. Refute it at one input. -/
def fnExactIsTriangleWrong : ChangeSpec := { name := "fnExactIsTriangle", fn := fun _ => fun
  | [d] => { results := [.lit (.bool false)], args := [d] }
  | _ => none }
def FnExactIsTriangleWrongFalsely : Prop := fnExactIsTriangleRow.holds Try.pinned (OpenSpec.ofChange fnExactIsTriangleWrong)

/-- 'laws.FnExactMatrixOf': WHATEVER THE INPUT: true; the input reads as it did. -/
def fnExactMatrixOfSpec : ChangeSpec := { name := "fnExactMatrixOf", fn := fun _ => fun
  | [d] => { results := [.lit (.bool true)], args := [d] }
  | _ => none }
def fnExactMatrixOfRow : OpenClaim := { program := "ytokclhiecaffgaa", sum := "412293ac338cb5978fb4e801874a461df77e0fec2958c51e75e53dcb4f700a1c", func := "loop.example/g03300/laws.FnExactMatrixOf", spec := "fnExactMatrixOf", apart := false }
def FnExactMatrixOfSaid : Prop := fnExactMatrixOfRow.holds Try.pinned (OpenSpec.ofChange fnExactMatrixOfSpec)

/-- ITS FALSE NEIGHBOUR: 'it returns false'. Refute it at one input. -/
def fnExactMatrixOfWrong : ChangeSpec := { name := "fnExactMatrixOf", fn := fun _ => fun
  | [d] => { results := [.lit (.bool false)], args := [d] }
  | _ => none }
def FnExactMatrixOfWrongFalsely : Prop := fnExactMatrixOfRow.holds Try.pinned (OpenSpec.ofChange fnExactMatrixOfWrong)

/-- 'laws.FnCorners': WHATEVER THE INPUT: true; the input reads as it did. -/
def fnCornersSpec : ChangeSpec := { name := "fnCorners", fn := fun _ => fun
  | [d] => { results := [.lit (.bool true)], args := [d] }
  | _ => none }
def fnCornersRow : OpenClaim := { program := "ytokclhiecaffgaa", sum := "412293ac338cb5978fb4e801874a461df77e0fec2958c51e75e53dcb4f700a1c", func := "loop.example/g03300/laws.FnCorners", spec := "fnCorners", unfollowed := true, recurses := true, apart := false }
def FnCornersSaid : Prop := fnCornersRow.holds Try.pinned (OpenSpec.ofChange fnCornersSpec)

/-- ITS FALSE NEIGHBOUR: 'it returns false'. Refute it at one input. -/
def fnCornersWrong : ChangeSpec := { name := "fnCorners", fn := fun _ => fun
  | [d] => { results := [.lit (.bool false)], args := [d] }
  | _ => none }
def FnCornersWrongFalsely : Prop := fnCornersRow.holds Try.pinned (OpenSpec.ofChange fnCornersWrong)

/-- 'laws.FnLong': WHATEVER THE INPUT: true; the input reads as it did. -/
def fnLongSpec : ChangeSpec := { name := "fnLong", fn := fun _ => fun
  | [d] => { results := [.lit (.bool true)], args := [d] }
  | _ => none }
def fnLongRow : OpenClaim := { program := "ytokclhiecaffgaa", sum := "412293ac338cb5978fb4e801874a461df77e0fec2958c51e75e53dcb4f700a1c", func := "loop.example/g03300/laws.FnLong", spec := "fnLong", unfollowed := true, recurses := true, apart := false }
def FnLongSaid : Prop := fnLongRow.holds Try.pinned (OpenSpec.ofChange fnLongSpec)

/-- ITS FALSE NEIGHBOUR: 'it returns false'. Refute it at one input. -/
def fnLongWrong : ChangeSpec := { name := "fnLong", fn := fun _ => fun
  | [d] => { results := [.lit (.bool false)], args := [d] }
  | _ => none }
def FnLongWrongFalsely : Prop := fnLongRow.holds Try.pinned (OpenSpec.ofChange fnLongWrong)

/-- 'laws.FnExactTriangleOf': WHATEVER THE INPUT: true; the input reads as it did. -/
def fnExactTriangleOfSpec : ChangeSpec := { name := "fnExactTriangleOf", fn := fun _ => fun
  | [d] => { results := [.lit (.bool true)], args := [d] }
  | _ => none }
def fnExactTriangleOfRow : OpenClaim := { program := "ytokclhiecaffgaa", sum := "412293ac338cb5978fb4e801874a461df77e0fec2958c51e75e53dcb4f700a1c", func := "loop.example/g03300/laws.FnExactTriangleOf", spec := "fnExactTriangleOf", apart := false }
def FnExactTriangleOfSaid : Prop := fnExactTriangleOfRow.holds Try.pinned (OpenSpec.ofChange fnExactTriangleOfSpec)

/-- ITS FALSE NEIGHBOUR: 'it returns false'. Refute it at one input. -/
def fnExactTriangleOfWrong : ChangeSpec := { name := "fnExactTriangleOf", fn := fun _ => fun
  | [d] => { results := [.lit (.bool false)], args := [d] }
  | _ => none }
def FnExactTriangleOfWrongFalsely : Prop := fnExactTriangleOfRow.holds Try.pinned (OpenSpec.ofChange fnExactTriangleOfWrong)

/-- 'laws.FnExactListAlternating': WHATEVER THE INPUT: true; the input reads as it did. -/
def fnExactListAlternatingSpec : ChangeSpec := { name := "fnExactListAlternating", fn := fun _ => fun
  | [d] => { results := [.lit (.bool true)], args := [d] }
  | _ => none }
def fnExactListAlternatingRow : OpenClaim := { program := "ytokclhiecaffgaa", sum := "412293ac338cb5978fb4e801874a461df77e0fec2958c51e75e53dcb4f700a1c", func := "loop.example/g03300/laws.FnExactListAlternating", spec := "fnExactListAlternating", unfollowed := true, recurses := true, apart := false }
def FnExactListAlternatingSaid : Prop := fnExactListAlternatingRow.holds Try.pinned (OpenSpec.ofChange fnExactListAlternatingSpec)

/-- ITS FALSE NEIGHBOUR: 'it returns false'. Refute it at one input. -/
def fnExactListAlternatingWrong : ChangeSpec := { name := "fnExactListAlternating", fn := fun _ => fun
  | [d] => { results := [.lit (.bool false)], args := [d] }
  | _ => none }
def FnExactListAlternatingWrongFalsely : Prop := fnExactListAlternatingRow.holds Try.pinned (OpenSpec.ofChange fnExactListAlternatingWrong)

/-- 'laws.FnAlternating': WHATEVER THE INPUT: true; the input reads as it did. -/
def fnAlternatingSpec : ChangeSpec := { name := "fnAlternating", fn := fun _ => fun
  | [d] => { results := [.lit (.bool true)], args := [d] }
  | _ => none }
def fnAlternatingRow : OpenClaim := { program := "ytokclhiecaffgaa", sum := "412293ac338cb5978fb4e801874a461df77e0fec2958c51e75e53dcb4f700a1c", func := "loop.example/g03300/laws.FnAlternating", spec := "fnAlternating", unfollowed := true, recurses := true, apart := false }
def FnAlternatingSaid : Prop := fnAlternatingRow.holds Try.pinned (OpenSpec.ofChange fnAlternatingSpec)

/-- ITS FALSE NEIGHBOUR: 'it returns false'. Refute it at one input. -/
def fnAlternatingWrong : ChangeSpec := { name := "fnAlternating", fn := fun _ => fun
  | [d] => { results := [.lit (.bool false)], args := [d] }
  | _ => none }
def FnAlternatingWrongFalsely : Prop := fnAlternatingRow.holds Try.pinned (OpenSpec.ofChange fnAlternatingWrong)

/-- 'laws.FnTriangles': WHATEVER THE INPUT: true; the input reads as it did. -/
def fnTrianglesSpec : ChangeSpec := { name := "fnTriangles", fn := fun _ => fun
  | [d] => { results := [.lit (.bool true)], args := [d] }
  | _ => none }
def fnTrianglesRow : OpenClaim := { program := "ytokclhiecaffgaa", sum := "412293ac338cb5978fb4e801874a461df77e0fec2958c51e75e53dcb4f700a1c", func := "loop.example/g03300/laws.FnTriangles", spec := "fnTriangles", unfollowed := true, recurses := true, apart := false }
def FnTrianglesSaid : Prop := fnTrianglesRow.holds Try.pinned (OpenSpec.ofChange fnTrianglesSpec)

/-- ITS FALSE NEIGHBOUR: 'it returns false'. Refute it at one input. -/
def fnTrianglesWrong : ChangeSpec := { name := "fnTriangles", fn := fun _ => fun
  | [d] => { results := [.lit (.bool false)], args := [d] }
  | _ => none }
def FnTrianglesWrongFalsely : Prop := fnTrianglesRow.holds Try.pinned (OpenSpec.ofChange fnTrianglesWrong)

/- THE SECOND FORM. 'bulk': how many values and letters a reading holds, each counted each time it is reached (what is shared counts as often as it is met; a slice's spare places count too). A statement '..UptoSaid' is the law's where the arguments, and the package variables that the reading takes, are together of bulk at most 1048576: NARROWER than '..Said'. Prove '..Said' where nothing that the law and all that it calls make is longer than what came in: it says more and counts as full. Else prove '..UptoSaid'. A law counts once. -/
mutual
def uptoBulk {H : Type} : DataW H → Nat
  | .lit (.string bytes) => bytes.length + 1
  | .lit _ => 1
  | .nil => 1
  | .ptr d => uptoBulk d + 1
  | .slice elems spare => uptoBulkAll elems + uptoBulkAll spare + 1
  | .agg parts => uptoBulkAll parts + 1
  | .iface _ d => uptoBulk d + 1
  | .map entries => uptoBulkEntries entries + 1
  | .held _ => 1
def uptoBulkAll {H : Type} : List (DataW H) → Nat
  | [] => 0
  | d :: r => uptoBulk d + uptoBulkAll r
def uptoBulkEntries {H : Type} : List (Lit × DataW H) → Nat
  | [] => 0
  | x :: r => uptoBulkEntry x + uptoBulkEntries r
def uptoBulkEntry {H : Type} : Lit × DataW H → Nat
  | (.string bytes, d) => bytes.length + uptoBulk d + 1
  | (_, d) => uptoBulk d + 1
 end
def uptoSmall : (H : Type) → List (DataW H) → Bool := fun _ ds => decide (uptoBulkAll ds ≤ 1048576)
def OpenSpec.upto (s : _root_.Go.ChangeSpec) : _root_.Go.OpenSpec := { _root_.Go.OpenSpec.ofChange s with cond := some uptoSmall }

/-- 'laws.FnExactCountUnder', WHERE WHAT IT READS IS OF BULK AT MOST 1048576: true; the input reads as it did. -/
def fnExactCountUnderUptoRow : OpenClaim := { program := "ytokclhiecaffgaa", sum := "412293ac338cb5978fb4e801874a461df77e0fec2958c51e75e53dcb4f700a1c", func := "loop.example/g03300/laws.FnExactCountUnder", spec := "fnExactCountUnder", unfollowed := true, recurses := true, apart := false, narrowed := true }
def FnExactCountUnderUptoSaid : Prop := fnExactCountUnderUptoRow.holds Try.pinned (OpenSpec.upto fnExactCountUnderSpec)

/-- 'laws.FnExactStripePattern', WHERE WHAT IT READS IS OF BULK AT MOST 1048576: true; the input reads as it did. -/
def fnExactStripePatternUptoRow : OpenClaim := { program := "ytokclhiecaffgaa", sum := "412293ac338cb5978fb4e801874a461df77e0fec2958c51e75e53dcb4f700a1c", func := "loop.example/g03300/laws.FnExactStripePattern", spec := "fnExactStripePattern", apart := false, narrowed := true }
def FnExactStripePatternUptoSaid : Prop := fnExactStripePatternUptoRow.holds Try.pinned (OpenSpec.upto fnExactStripePatternSpec)

/-- 'laws.FnExactCountLong', WHERE WHAT IT READS IS OF BULK AT MOST 1048576: true; the input reads as it did. -/
def fnExactCountLongUptoRow : OpenClaim := { program := "ytokclhiecaffgaa", sum := "412293ac338cb5978fb4e801874a461df77e0fec2958c51e75e53dcb4f700a1c", func := "loop.example/g03300/laws.FnExactCountLong", spec := "fnExactCountLong", unfollowed := true, recurses := true, apart := false, narrowed := true }
def FnExactCountLongUptoSaid : Prop := fnExactCountLongUptoRow.holds Try.pinned (OpenSpec.upto fnExactCountLongSpec)

/-- 'laws.FnExactTileMissing', WHERE WHAT IT READS IS OF BULK AT MOST 1048576: true; the input reads as it did. -/
def fnExactTileMissingUptoRow : OpenClaim := { program := "ytokclhiecaffgaa", sum := "412293ac338cb5978fb4e801874a461df77e0fec2958c51e75e53dcb4f700a1c", func := "loop.example/g03300/laws.FnExactTileMissing", spec := "fnExactTileMissing", recurses := true, apart := false, narrowed := true }
def FnExactTileMissingUptoSaid : Prop := fnExactTileMissingUptoRow.holds Try.pinned (OpenSpec.upto fnExactTileMissingSpec)

/-- 'laws.FnExactIsTriangle', WHERE WHAT IT READS IS OF BULK AT MOST 1048576: true; the input reads as it did. -/
def fnExactIsTriangleUptoRow : OpenClaim := { program := "ytokclhiecaffgaa", sum := "412293ac338cb5978fb4e801874a461df77e0fec2958c51e75e53dcb4f700a1c", func := "loop.example/g03300/laws.FnExactIsTriangle", spec := "fnExactIsTriangle", apart := false, narrowed := true }
def FnExactIsTriangleUptoSaid : Prop := fnExactIsTriangleUptoRow.holds Try.pinned (OpenSpec.upto fnExactIsTriangleSpec)

/-- 'laws.FnExactMatrixOf', WHERE WHAT IT READS IS OF BULK AT MOST 1048576: true; the input reads as it did. -/
def fnExactMatrixOfUptoRow : OpenClaim := { program := "ytokclhiecaffgaa", sum := "412293ac338cb5978fb4e801874a461df77e0fec2958c51e75e53dcb4f700a1c", func := "loop.example/g03300/laws.FnExactMatrixOf", spec := "fnExactMatrixOf", apart := false, narrowed := true }
def FnExactMatrixOfUptoSaid : Prop := fnExactMatrixOfUptoRow.holds Try.pinned (OpenSpec.upto fnExactMatrixOfSpec)

/-- 'laws.FnCorners', WHERE WHAT IT READS IS OF BULK AT MOST 1048576: true; the input reads as it did. -/
def fnCornersUptoRow : OpenClaim := { program := "ytokclhiecaffgaa", sum := "412293ac338cb5978fb4e801874a461df77e0fec2958c51e75e53dcb4f700a1c", func := "loop.example/g03300/laws.FnCorners", spec := "fnCorners", unfollowed := true, recurses := true, apart := false, narrowed := true }
def FnCornersUptoSaid : Prop := fnCornersUptoRow.holds Try.pinned (OpenSpec.upto fnCornersSpec)

/-- 'laws.FnLong', WHERE WHAT IT READS IS OF BULK AT MOST 1048576: true; the input reads as it did. -/
def fnLongUptoRow : OpenClaim := { program := "ytokclhiecaffgaa", sum := "412293ac338cb5978fb4e801874a461df77e0fec2958c51e75e53dcb4f700a1c", func := "loop.example/g03300/laws.FnLong", spec := "fnLong", unfollowed := true, recurses := true, apart := false, narrowed := true }
def FnLongUptoSaid : Prop := fnLongUptoRow.holds Try.pinned (OpenSpec.upto fnLongSpec)

/-- 'laws.FnExactTriangleOf', WHERE WHAT IT READS IS OF BULK AT MOST 1048576: true; the input reads as it did. -/
def fnExactTriangleOfUptoRow : OpenClaim := { program := "ytokclhiecaffgaa", sum := "412293ac338cb5978fb4e801874a461df77e0fec2958c51e75e53dcb4f700a1c", func := "loop.example/g03300/laws.FnExactTriangleOf", spec := "fnExactTriangleOf", apart := false, narrowed := true }
def FnExactTriangleOfUptoSaid : Prop := fnExactTriangleOfUptoRow.holds Try.pinned (OpenSpec.upto fnExactTriangleOfSpec)

/-- 'laws.FnExactListAlternating', WHERE WHAT IT READS IS OF BULK AT MOST 1048576: true; the input reads as it did. -/
def fnExactListAlternatingUptoRow : OpenClaim := { program := "ytokclhiecaffgaa", sum := "412293ac338cb5978fb4e801874a461df77e0fec2958c51e75e53dcb4f700a1c", func := "loop.example/g03300/laws.FnExactListAlternating", spec := "fnExactListAlternating", unfollowed := true, recurses := true, apart := false, narrowed := true }
def FnExactListAlternatingUptoSaid : Prop := fnExactListAlternatingUptoRow.holds Try.pinned (OpenSpec.upto fnExactListAlternatingSpec)

/-- 'laws.FnAlternating', WHERE WHAT IT READS IS OF BULK AT MOST 1048576: true; the input reads as it did. -/
def fnAlternatingUptoRow : OpenClaim := { program := "ytokclhiecaffgaa", sum := "412293ac338cb5978fb4e801874a461df77e0fec2958c51e75e53dcb4f700a1c", func := "loop.example/g03300/laws.FnAlternating", spec := "fnAlternating", unfollowed := true, recurses := true, apart := false, narrowed := true }
def FnAlternatingUptoSaid : Prop := fnAlternatingUptoRow.holds Try.pinned (OpenSpec.upto fnAlternatingSpec)

/-- 'laws.FnTriangles', WHERE WHAT IT READS IS OF BULK AT MOST 1048576: true; the input reads as it did. -/
def fnTrianglesUptoRow : OpenClaim := { program := "ytokclhiecaffgaa", sum := "412293ac338cb5978fb4e801874a461df77e0fec2958c51e75e53dcb4f700a1c", func := "loop.example/g03300/laws.FnTriangles", spec := "fnTriangles", unfollowed := true, recurses := true, apart := false, narrowed := true }
def FnTrianglesUptoSaid : Prop := fnTrianglesUptoRow.holds Try.pinned (OpenSpec.upto fnTrianglesSpec)

end Rows
end Go.Proofs.Ytokclhiecaffgaa

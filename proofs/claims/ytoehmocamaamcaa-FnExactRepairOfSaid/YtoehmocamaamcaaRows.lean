/-
  No cell of these rows narrows 'for every input' (looked for: loops, veiled, ifaces, maps, wideKeys, modest, calm, conditions, laid).
  DERIVED. THE GIVEN ROWS OF THIS SEAT. 6 by the template 'for every input the law returns true; each argument reads behind the call as it read before'; 0 by the template 'total and deterministic' (their statements: YtoehmocamaamcaaTotals.lean).
  GIVEN WITH THE SEED: the statements are not yours to turn. If you find one false, say at which input.
  Laid BY PROGRAM, IN A SANDBOX (cutbox-rows.mjs): the forced cells as the released guide's own fill.sh prints them over the translation f3353bb5b58921b9… (all of the seat's roots in one cut). By AI agents, Wed Nov 11 2026. No macro, syntax, notation, axiom, sorry.
-/
import Derived.Test.YtoehmocamaamcaaChecked
import GoSem.Claim
import GoSem.ClaimJoined
import GoSem.ClaimMapViews
import Derived.JoinedTies
import Derived.KernelRfl
namespace Go.Proofs.Ytoehmocamaamcaa
/- THE CELL 'sum', in the pinned program and in every row, IS THE sha256 OF THE DUMP (.gsa) THAT YtoehmocamaamcaaProg.lean LOADS. Nothing in Lean hashes anything: it is a label: what it is worth is what the hold of that sum in a sandbox is worth. -/
noncomputable def Try.pinned : Pinned := { name := "ytoehmocamaamcaa", sum := "f3353bb5b58921b98d5a53d7e6eb6333f67200667d5d473542cfe655a951fd12", checked := Try.checked }
namespace Rows
def none {H : Type} : Left H := { results := [], args := [] }

/-- 'laws.FnExactCountLong': WHATEVER THE INPUT: true; the input reads as it did. -/
def fnExactCountLongSpec : ChangeSpec := { name := "fnExactCountLong", fn := fun _ => fun
  | [d1, d2, d3] => { results := [.lit (.bool true)], args := [d1, d2, d3] }
  | _ => none }
def fnExactCountLongRow : OpenClaim := { program := "ytoehmocamaamcaa", sum := "f3353bb5b58921b98d5a53d7e6eb6333f67200667d5d473542cfe655a951fd12", func := "loop.example/g03300/laws.FnExactCountLong", spec := "fnExactCountLong", unfollowed := true, recurses := true, apart := false }
def FnExactCountLongSaid : Prop := fnExactCountLongRow.holds Try.pinned (OpenSpec.ofChange fnExactCountLongSpec)

/-- ITS FALSE NEIGHBOUR: 'it returns false'. Refute it at one input. -/
def fnExactCountLongWrong : ChangeSpec := { name := "fnExactCountLong", fn := fun _ => fun
  | [d1, d2, d3] => { results := [.lit (.bool false)], args := [d1, d2, d3] }
  | _ => none }
def FnExactCountLongWrongFalsely : Prop := fnExactCountLongRow.holds Try.pinned (OpenSpec.ofChange fnExactCountLongWrong)

/-- 'laws.FnExactListAlternating': WHATEVER THE INPUT: true; the input reads as it did. -/
def fnExactListAlternatingSpec : ChangeSpec := { name := "fnExactListAlternating", fn := fun _ => fun
  | [d] => { results := [.lit (.bool true)], args := [d] }
  | _ => none }
def fnExactListAlternatingRow : OpenClaim := { program := "ytoehmocamaamcaa", sum := "f3353bb5b58921b98d5a53d7e6eb6333f67200667d5d473542cfe655a951fd12", func := "loop.example/g03300/laws.FnExactListAlternating", spec := "fnExactListAlternating", unfollowed := true, recurses := true, apart := false }
def FnExactListAlternatingSaid : Prop := fnExactListAlternatingRow.holds Try.pinned (OpenSpec.ofChange fnExactListAlternatingSpec)

/-- ITS FALSE NEIGHBOUR: 'it returns false'. Refute it at one input. -/
def fnExactListAlternatingWrong : ChangeSpec := { name := "fnExactListAlternating", fn := fun _ => fun
  | [d] => { results := [.lit (.bool false)], args := [d] }
  | _ => none }
def FnExactListAlternatingWrongFalsely : Prop := fnExactListAlternatingRow.holds Try.pinned (OpenSpec.ofChange fnExactListAlternatingWrong)

/-- 'laws.FnExactCountCorners': WHATEVER THE INPUT: true; the input reads as it did. -/
def fnExactCountCornersSpec : ChangeSpec := { name := "fnExactCountCorners", fn := fun _ => fun
  | [d] => { results := [.lit (.bool true)], args := [d] }
  | _ => none }
def fnExactCountCornersRow : OpenClaim := { program := "ytoehmocamaamcaa", sum := "f3353bb5b58921b98d5a53d7e6eb6333f67200667d5d473542cfe655a951fd12", func := "loop.example/g03300/laws.FnExactCountCorners", spec := "fnExactCountCorners", unfollowed := true, recurses := true, apart := false }
def FnExactCountCornersSaid : Prop := fnExactCountCornersRow.holds Try.pinned (OpenSpec.ofChange fnExactCountCornersSpec)

/-- ITS FALSE NEIGHBOUR: 'it returns false'. Refute it at one input. -/
def fnExactCountCornersWrong : ChangeSpec := { name := "fnExactCountCorners", fn := fun _ => fun
  | [d] => { results := [.lit (.bool false)], args := [d] }
  | _ => none }
def FnExactCountCornersWrongFalsely : Prop := fnExactCountCornersRow.holds Try.pinned (OpenSpec.ofChange fnExactCountCornersWrong)

/-- 'laws.FnExactRepairCost': WHATEVER THE INPUT: true; the input reads as it did. -/
def fnExactRepairCostSpec : ChangeSpec := { name := "fnExactRepairCost", fn := fun _ => fun
  | [d1, d2, d3] => { results := [.lit (.bool true)], args := [d1, d2, d3] }
  | _ => none }
def fnExactRepairCostRow : OpenClaim := { program := "ytoehmocamaamcaa", sum := "f3353bb5b58921b98d5a53d7e6eb6333f67200667d5d473542cfe655a951fd12", func := "loop.example/g03300/laws.FnExactRepairCost", spec := "fnExactRepairCost", unfollowed := true, recurses := true, apart := false }
def FnExactRepairCostSaid : Prop := fnExactRepairCostRow.holds Try.pinned (OpenSpec.ofChange fnExactRepairCostSpec)

/-- ITS FALSE NEIGHBOUR: 'it returns false'. Refute it at one input. -/
def fnExactRepairCostWrong : ChangeSpec := { name := "fnExactRepairCost", fn := fun _ => fun
  | [d1, d2, d3] => { results := [.lit (.bool false)], args := [d1, d2, d3] }
  | _ => none }
def FnExactRepairCostWrongFalsely : Prop := fnExactRepairCostRow.holds Try.pinned (OpenSpec.ofChange fnExactRepairCostWrong)

/-- 'laws.FnExactWorstDomino': WHATEVER THE INPUT: true; the input reads as it did. -/
def fnExactWorstDominoSpec : ChangeSpec := { name := "fnExactWorstDomino", fn := fun _ => fun
  | [d1, d2] => { results := [.lit (.bool true)], args := [d1, d2] }
  | _ => none }
def fnExactWorstDominoRow : OpenClaim := { program := "ytoehmocamaamcaa", sum := "f3353bb5b58921b98d5a53d7e6eb6333f67200667d5d473542cfe655a951fd12", func := "loop.example/g03300/laws.FnExactWorstDomino", spec := "fnExactWorstDomino", unfollowed := true, recurses := true, apart := false }
def FnExactWorstDominoSaid : Prop := fnExactWorstDominoRow.holds Try.pinned (OpenSpec.ofChange fnExactWorstDominoSpec)

/-- ITS FALSE NEIGHBOUR: 'it returns false'. Refute it at one input. -/
def fnExactWorstDominoWrong : ChangeSpec := { name := "fnExactWorstDomino", fn := fun _ => fun
  | [d1, d2] => { results := [.lit (.bool false)], args := [d1, d2] }
  | _ => none }
def FnExactWorstDominoWrongFalsely : Prop := fnExactWorstDominoRow.holds Try.pinned (OpenSpec.ofChange fnExactWorstDominoWrong)

/-- 'laws.FnExactRepairOf': WHATEVER THE INPUT: true; the input reads as it did. -/
def fnExactRepairOfSpec : ChangeSpec := { name := "fnExactRepairOf", fn := fun _ => fun
  | [d1, d2, d3] => { results := [.lit (.bool true)], args := [d1, d2, d3] }
  | _ => none }
def fnExactRepairOfRow : OpenClaim := { program := "ytoehmocamaamcaa", sum := "f3353bb5b58921b98d5a53d7e6eb6333f67200667d5d473542cfe655a951fd12", func := "loop.example/g03300/laws.FnExactRepairOf", spec := "fnExactRepairOf", unfollowed := true, recurses := true, apart := false }
def FnExactRepairOfSaid : Prop := fnExactRepairOfRow.holds Try.pinned (OpenSpec.ofChange fnExactRepairOfSpec)

/-- ITS FALSE NEIGHBOUR: 'it returns false'. Refute it at one input. -/
def fnExactRepairOfWrong : ChangeSpec := { name := "fnExactRepairOf", fn := fun _ => fun
  | [d1, d2, d3] => { results := [.lit (.bool false)], args := [d1, d2, d3] }
  | _ => none }
def FnExactRepairOfWrongFalsely : Prop := fnExactRepairOfRow.holds Try.pinned (OpenSpec.ofChange fnExactRepairOfWrong)

/- THE SECOND FORM. 'bulk': how many values and letters a reading holds, each counted each time it is reached (what is shared counts as often as it is met; a slice's spare places count too). A statement '..UptoSaid' is the law's where the arguments, and the package variables that the reading takes, are together of bulk at most 1048576: NARROWER than '..Said'. Prove '..Said' where nothing that the law and all that it calls make is longer than what came in: it says more and counts as full. Else prove '..UptoSaid'. A law counts once. -/
mutual
def uptoBulk {H : Type} : DataW H → Nat
  | .lit (.string bytes) => bytes.length + 1
  | .lit _ => 1
  | .nil => 1
  | .ptr d => uptoBulk d + 1
  | .slice elems spare => uptoBulkAll elems + uptoBulkAll spare + 1
  | .agg parts => uptoBulkAll parts + 1
  | .iface _ d => uptoBulk d + 1
  | .map entries => uptoBulkEntries entries + 1
  | .held _ => 1
def uptoBulkAll {H : Type} : List (DataW H) → Nat
  | [] => 0
  | d :: r => uptoBulk d + uptoBulkAll r
def uptoBulkEntries {H : Type} : List (Lit × DataW H) → Nat
  | [] => 0
  | x :: r => uptoBulkEntry x + uptoBulkEntries r
def uptoBulkEntry {H : Type} : Lit × DataW H → Nat
  | (.string bytes, d) => bytes.length + uptoBulk d + 1
  | (_, d) => uptoBulk d + 1
 end
def uptoSmall : (H : Type) → List (DataW H) → Bool := fun _ ds => decide (uptoBulkAll ds ≤ 1048576)
def OpenSpec.upto (s : _root_.Go.ChangeSpec) : _root_.Go.OpenSpec := { _root_.Go.OpenSpec.ofChange s with cond := some uptoSmall }

/-- 'laws.FnExactCountLong', WHERE WHAT IT READS IS OF BULK AT MOST 1048576: true; the input reads as it did. -/
def fnExactCountLongUptoRow : OpenClaim := { program := "ytoehmocamaamcaa", sum := "f3353bb5b58921b98d5a53d7e6eb6333f67200667d5d473542cfe655a951fd12", func := "loop.example/g03300/laws.FnExactCountLong", spec := "fnExactCountLong", unfollowed := true, recurses := true, apart := false, narrowed := true }
def FnExactCountLongUptoSaid : Prop := fnExactCountLongUptoRow.holds Try.pinned (OpenSpec.upto fnExactCountLongSpec)

/-- 'laws.FnExactListAlternating', WHERE WHAT IT READS IS OF BULK AT MOST 1048576: true; the input reads as it did. -/
def fnExactListAlternatingUptoRow : OpenClaim := { program := "ytoehmocamaamcaa", sum := "f3353bb5b58921b98d5a53d7e6eb6333f67200667d5d473542cfe655a951fd12", func := "loop.example/g03300/laws.FnExactListAlternating", spec := "fnExactListAlternating", unfollowed := true, recurses := true, apart := false, narrowed := true }
def FnExactListAlternatingUptoSaid : Prop := fnExactListAlternatingUptoRow.holds Try.pinned (OpenSpec.upto fnExactListAlternatingSpec)

/-- 'laws.FnExactCountCorners', WHERE WHAT IT READS IS OF BULK AT MOST 1048576: true; the input reads as it did. -/
def fnExactCountCornersUptoRow : OpenClaim := { program := "ytoehmocamaamcaa", sum := "f3353bb5b58921b98d5a53d7e6eb6333f67200667d5d473542cfe655a951fd12", func := "loop.example/g03300/laws.FnExactCountCorners", spec := "fnExactCountCorners", unfollowed := true, recurses := true, apart := false, narrowed := true }
def FnExactCountCornersUptoSaid : Prop := fnExactCountCornersUptoRow.holds Try.pinned (OpenSpec.upto fnExactCountCornersSpec)

/-- 'laws.FnExactRepairCost', WHERE WHAT IT READS IS OF BULK AT MOST 1048576: true; the input reads as it did. -/
def fnExactRepairCostUptoRow : OpenClaim := { program := "ytoehmocamaamcaa", sum := "f3353bb5b58921b98d5a53d7e6eb6333f67200667d5d473542cfe655a951fd12", func := "loop.example/g03300/laws.FnExactRepairCost", spec := "fnExactRepairCost", unfollowed := true, recurses := true, apart := false, narrowed := true }
def FnExactRepairCostUptoSaid : Prop := fnExactRepairCostUptoRow.holds Try.pinned (OpenSpec.upto fnExactRepairCostSpec)

/-- 'laws.FnExactWorstDomino', WHERE WHAT IT READS IS OF BULK AT MOST 1048576: true; the input reads as it did. -/
def fnExactWorstDominoUptoRow : OpenClaim := { program := "ytoehmocamaamcaa", sum := "f3353bb5b58921b98d5a53d7e6eb6333f67200667d5d473542cfe655a951fd12", func := "loop.example/g03300/laws.FnExactWorstDomino", spec := "fnExactWorstDomino", unfollowed := true, recurses := true, apart := false, narrowed := true }
def FnExactWorstDominoUptoSaid : Prop := fnExactWorstDominoUptoRow.holds Try.pinned (OpenSpec.upto fnExactWorstDominoSpec)

/-- 'laws.FnExactRepairOf', WHERE WHAT IT READS IS OF BULK AT MOST 1048576: true; the input reads as it did. -/
def fnExactRepairOfUptoRow : OpenClaim := { program := "ytoehmocamaamcaa", sum := "f3353bb5b58921b98d5a53d7e6eb6333f67200667d5d473542cfe655a951fd12", func := "loop.example/g03300/laws.FnExactRepairOf", spec := "fnExactRepairOf", unfollowed := true, recurses := true, apart := false, narrowed := true }
def FnExactRepairOfUptoSaid : Prop := fnExactRepairOfUptoRow.holds Try.pinned (OpenSpec.upto fnExactRepairOfSpec)

end Rows
end Go.Proofs.Ytoehmocamaamcaa

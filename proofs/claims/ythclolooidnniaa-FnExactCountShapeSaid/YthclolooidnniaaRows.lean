/-
  No cell of these rows narrows 'for every input' (looked for: loops, veiled, ifaces, maps, wideKeys, modest, calm, conditions, laid).
  DERIVED. THE GIVEN ROWS OF THIS SEAT. 12 by the template 'for every input the law returns true; each argument reads behind the call as it read before'; 0 by the template 'total and deterministic' (their statements: YthclolooidnniaaTotals.lean).
  GIVEN WITH THE SEED: the statements are not yours to turn. If you find one false, say at which input.
  Laid BY PROGRAM, IN A SANDBOX (cutbox-rows.mjs): the forced cells as the released guide's own fill.sh prints them over the translation a813698870cfe06c… (all of the seat's roots in one cut). By AI agents, Wed Nov 11 2026. No macro, syntax, notation, axiom, sorry.
-/
import Derived.Test.YthclolooidnniaaChecked
import GoSem.Claim
import GoSem.ClaimJoined
import GoSem.ClaimMapViews
import Derived.JoinedTies
import Derived.KernelRfl
namespace Go.Proofs.Ythclolooidnniaa
/- THE CELL 'sum', in the pinned program and in every row, IS THE sha256 OF THE DUMP (.gsa) THAT YthclolooidnniaaProg.lean LOADS. Nothing in Lean hashes anything: it is a label: what it is worth is what the hold of that sum in a sandbox is worth. -/
noncomputable def Try.pinned : Pinned := { name := "ythclolooidnniaa", sum := "a813698870cfe06cbfd616596d03217e8e925b60df74f0b1160297f01b280d8e", checked := Try.checked }
namespace Rows
def none {H : Type} : Left H := { results := [], args := [] }

/-- 'laws.FnExactIsProof': WHATEVER THE INPUT: true; the input reads as it did. -/
def fnExactIsProofSpec : ChangeSpec := { name := "fnExactIsProof", fn := fun _ => fun
  | [d1, d2, d3] => { results := [.lit (.bool true)], args := [d1, d2, d3] }
  | _ => none }
def fnExactIsProofRow : OpenClaim := { program := "ythclolooidnniaa", sum := "a813698870cfe06cbfd616596d03217e8e925b60df74f0b1160297f01b280d8e", func := "loop.example/g03300/laws.FnExactIsProof", spec := "fnExactIsProof", apart := false }
def FnExactIsProofSaid : Prop := fnExactIsProofRow.holds Try.pinned (OpenSpec.ofChange fnExactIsProofSpec)

/-- ITS FALSE NEIGHBOUR: 'it returns false'. Refute it at one input. -/
def fnExactIsProofWrong : ChangeSpec := { name := "fnExactIsProof", fn := fun _ => fun
  | [d1, d2, d3] => { results := [.lit (.bool false)], args := [d1, d2, d3] }
  | _ => none }
def FnExactIsProofWrongFalsely : Prop := fnExactIsProofRow.holds Try.pinned (OpenSpec.ofChange fnExactIsProofWrong)

/-- 'laws.FnProofs': WHATEVER THE INPUT: true; the input reads as it did. -/
def fnProofsSpec : ChangeSpec := { name := "fnProofs", fn := fun _ => fun
  | [d] => { results := [.lit (.bool true)], args := [d] }
  | _ => none }
def fnProofsRow : OpenClaim := { program := "ythclolooidnniaa", sum := "a813698870cfe06cbfd616596d03217e8e925b60df74f0b1160297f01b280d8e", func := "loop.example/g03300/laws.FnProofs", spec := "fnProofs", recurses := true, apart := false }
def FnProofsSaid : Prop := fnProofsRow.holds Try.pinned (OpenSpec.ofChange fnProofsSpec)

/-- ITS FALSE NEIGHBOUR: 'it returns false'. Refute it at one input. -/
def fnProofsWrong : ChangeSpec := { name := "fnProofs", fn := fun _ => fun
  | [d] => { results := [.lit (.bool false)], args := [d] }
  | _ => none }
def FnProofsWrongFalsely : Prop := fnProofsRow.holds Try.pinned (OpenSpec.ofChange fnProofsWrong)

/-- 'laws.FnExactWeightAt': WHATEVER THE INPUT: true; the input reads as it did. -/
def fnExactWeightAtSpec : ChangeSpec := { name := "fnExactWeightAt", fn := fun _ => fun
  | [d1, d2] => { results := [.lit (.bool true)], args := [d1, d2] }
  | _ => none }
def fnExactWeightAtRow : OpenClaim := { program := "ythclolooidnniaa", sum := "a813698870cfe06cbfd616596d03217e8e925b60df74f0b1160297f01b280d8e", func := "loop.example/g03300/laws.FnExactWeightAt", spec := "fnExactWeightAt", apart := false }
def FnExactWeightAtSaid : Prop := fnExactWeightAtRow.holds Try.pinned (OpenSpec.ofChange fnExactWeightAtSpec)

/-- ITS FALSE NEIGHBOUR: 'it returns false'. Refute it at one input. -/
def fnExactWeightAtWrong : ChangeSpec := { name := "fnExactWeightAt", fn := fun _ => fun
  | [d1, d2] => { results := [.lit (.bool false)], args := [d1, d2] }
  | _ => none }
def FnExactWeightAtWrongFalsely : Prop := fnExactWeightAtRow.holds Try.pinned (OpenSpec.ofChange fnExactWeightAtWrong)

/-- 'laws.FnExactColorCounts': WHATEVER THE INPUT: true; the input reads as it did. -/
def fnExactColorCountsSpec : ChangeSpec := { name := "fnExactColorCounts", fn := fun _ => fun
  | [d1, d2] => { results := [.lit (.bool true)], args := [d1, d2] }
  | _ => none }
def fnExactColorCountsRow : OpenClaim := { program := "ythclolooidnniaa", sum := "a813698870cfe06cbfd616596d03217e8e925b60df74f0b1160297f01b280d8e", func := "loop.example/g03300/laws.FnExactColorCounts", spec := "fnExactColorCounts", apart := false }
def FnExactColorCountsSaid : Prop := fnExactColorCountsRow.holds Try.pinned (OpenSpec.ofChange fnExactColorCountsSpec)

/-- ITS FALSE NEIGHBOUR: 'it returns false'. Refute it at one input. -/
def fnExactColorCountsWrong : ChangeSpec := { name := "fnExactColorCounts", fn := fun _ => fun
  | [d1, d2] => { results := [.lit (.bool false)], args := [d1, d2] }
  | _ => none }
def FnExactColorCountsWrongFalsely : Prop := fnExactColorCountsRow.holds Try.pinned (OpenSpec.ofChange fnExactColorCountsWrong)

/-- 'laws.FnExactShapeOk': WHATEVER THE INPUT: true; the input reads as it did. -/
def fnExactShapeOkSpec : ChangeSpec := { name := "fnExactShapeOk", fn := fun _ => fun
  | [d] => { results := [.lit (.bool true)], args := [d] }
  | _ => none }
def fnExactShapeOkRow : OpenClaim := { program := "ythclolooidnniaa", sum := "a813698870cfe06cbfd616596d03217e8e925b60df74f0b1160297f01b280d8e", func := "loop.example/g03300/laws.FnExactShapeOk", spec := "fnExactShapeOk", apart := false }
def FnExactShapeOkSaid : Prop := fnExactShapeOkRow.holds Try.pinned (OpenSpec.ofChange fnExactShapeOkSpec)

/-- ITS FALSE NEIGHBOUR: 'it returns false'. Refute it at one input. -/
def fnExactShapeOkWrong : ChangeSpec := { name := "fnExactShapeOk", fn := fun _ => fun
  | [d] => { results := [.lit (.bool false)], args := [d] }
  | _ => none }
def FnExactShapeOkWrongFalsely : Prop := fnExactShapeOkRow.holds Try.pinned (OpenSpec.ofChange fnExactShapeOkWrong)

/-- 'laws.FnExactWeightOf': WHATEVER THE INPUT: true; the input reads as it did. -/
def fnExactWeightOfSpec : ChangeSpec := { name := "fnExactWeightOf", fn := fun _ => fun
  | [d1, d2] => { results := [.lit (.bool true)], args := [d1, d2] }
  | _ => none }
def fnExactWeightOfRow : OpenClaim := { program := "ythclolooidnniaa", sum := "a813698870cfe06cbfd616596d03217e8e925b60df74f0b1160297f01b280d8e", func := "loop.example/g03300/laws.FnExactWeightOf", spec := "fnExactWeightOf", apart := false }
def FnExactWeightOfSaid : Prop := fnExactWeightOfRow.holds Try.pinned (OpenSpec.ofChange fnExactWeightOfSpec)

/-- ITS FALSE NEIGHBOUR: 'it returns false'. Refute it at one input. -/
def fnExactWeightOfWrong : ChangeSpec := { name := "fnExactWeightOf", fn := fun _ => fun
  | [d1, d2] => { results := [.lit (.bool false)], args := [d1, d2] }
  | _ => none }
def FnExactWeightOfWrongFalsely : Prop := fnExactWeightOfRow.holds Try.pinned (OpenSpec.ofChange fnExactWeightOfWrong)

/-- 'laws.FnExactFitShape': WHATEVER THE INPUT: true; the input reads as it did. -/
def fnExactFitShapeSpec : ChangeSpec := { name := "fnExactFitShape", fn := fun _ => fun
  | [d] => { results := [.lit (.bool true)], args := [d] }
  | _ => none }
def fnExactFitShapeRow : OpenClaim := { program := "ythclolooidnniaa", sum := "a813698870cfe06cbfd616596d03217e8e925b60df74f0b1160297f01b280d8e", func := "loop.example/g03300/laws.FnExactFitShape", spec := "fnExactFitShape", apart := false }
def FnExactFitShapeSaid : Prop := fnExactFitShapeRow.holds Try.pinned (OpenSpec.ofChange fnExactFitShapeSpec)

/-- ITS FALSE NEIGHBOUR: 'it returns false'. Refute it at one input. -/
def fnExactFitShapeWrong : ChangeSpec := { name := "fnExactFitShape", fn := fun _ => fun
  | [d] => { results := [.lit (.bool false)], args := [d] }
  | _ => none }
def FnExactFitShapeWrongFalsely : Prop := fnExactFitShapeRow.holds Try.pinned (OpenSpec.ofChange fnExactFitShapeWrong)

/-- 'laws.FnExactIsSymmetricShape': WHATEVER THE INPUT: true; the input reads as it did. -/
def fnExactIsSymmetricShapeSpec : ChangeSpec := { name := "fnExactIsSymmetricShape", fn := fun _ => fun
  | [d] => { results := [.lit (.bool true)], args := [d] }
  | _ => none }
def fnExactIsSymmetricShapeRow : OpenClaim := { program := "ythclolooidnniaa", sum := "a813698870cfe06cbfd616596d03217e8e925b60df74f0b1160297f01b280d8e", func := "loop.example/g03300/laws.FnExactIsSymmetricShape", spec := "fnExactIsSymmetricShape", apart := false }
def FnExactIsSymmetricShapeSaid : Prop := fnExactIsSymmetricShapeRow.holds Try.pinned (OpenSpec.ofChange fnExactIsSymmetricShapeSpec)

/-- ITS FALSE NEIGHBOUR: 'it returns false'. Refute it at one input. -/
def fnExactIsSymmetricShapeWrong : ChangeSpec := { name := "fnExactIsSymmetricShape", fn := fun _ => fun
  | [d] => { results := [.lit (.bool false)], args := [d] }
  | _ => none }
def FnExactIsSymmetricShapeWrongFalsely : Prop := fnExactIsSymmetricShapeRow.holds Try.pinned (OpenSpec.ofChange fnExactIsSymmetricShapeWrong)

/-- 'laws.FnExactTurnsOfShape': WHATEVER THE INPUT: true; the input reads as it did. -/
def fnExactTurnsOfShapeSpec : ChangeSpec := { name := "fnExactTurnsOfShape", fn := fun _ => fun
  | [d] => { results := [.lit (.bool true)], args := [d] }
  | _ => none }
def fnExactTurnsOfShapeRow : OpenClaim := { program := "ythclolooidnniaa", sum := "a813698870cfe06cbfd616596d03217e8e925b60df74f0b1160297f01b280d8e", func := "loop.example/g03300/laws.FnExactTurnsOfShape", spec := "fnExactTurnsOfShape", apart := false }
def FnExactTurnsOfShapeSaid : Prop := fnExactTurnsOfShapeRow.holds Try.pinned (OpenSpec.ofChange fnExactTurnsOfShapeSpec)

/-- ITS FALSE NEIGHBOUR: 'it returns false'. Refute it at one input. -/
def fnExactTurnsOfShapeWrong : ChangeSpec := { name := "fnExactTurnsOfShape", fn := fun _ => fun
  | [d] => { results := [.lit (.bool false)], args := [d] }
  | _ => none }
def FnExactTurnsOfShapeWrongFalsely : Prop := fnExactTurnsOfShapeRow.holds Try.pinned (OpenSpec.ofChange fnExactTurnsOfShapeWrong)

/-- 'laws.FnExactIsNeutral': WHATEVER THE INPUT: true; the input reads as it did. -/
def fnExactIsNeutralSpec : ChangeSpec := { name := "fnExactIsNeutral", fn := fun _ => fun
  | [d1, d2] => { results := [.lit (.bool true)], args := [d1, d2] }
  | _ => none }
def fnExactIsNeutralRow : OpenClaim := { program := "ythclolooidnniaa", sum := "a813698870cfe06cbfd616596d03217e8e925b60df74f0b1160297f01b280d8e", func := "loop.example/g03300/laws.FnExactIsNeutral", spec := "fnExactIsNeutral", apart := false }
def FnExactIsNeutralSaid : Prop := fnExactIsNeutralRow.holds Try.pinned (OpenSpec.ofChange fnExactIsNeutralSpec)

/-- ITS FALSE NEIGHBOUR: 'it returns false'. Refute it at one input. -/
def fnExactIsNeutralWrong : ChangeSpec := { name := "fnExactIsNeutral", fn := fun _ => fun
  | [d1, d2] => { results := [.lit (.bool false)], args := [d1, d2] }
  | _ => none }
def FnExactIsNeutralWrongFalsely : Prop := fnExactIsNeutralRow.holds Try.pinned (OpenSpec.ofChange fnExactIsNeutralWrong)

/-- 'laws.FnShapes': WHATEVER THE INPUT: true; the input reads as it did. -/
def fnShapesSpec : ChangeSpec := { name := "fnShapes", fn := fun _ => fun
  | [d] => { results := [.lit (.bool true)], args := [d] }
  | _ => none }
def fnShapesRow : OpenClaim := { program := "ythclolooidnniaa", sum := "a813698870cfe06cbfd616596d03217e8e925b60df74f0b1160297f01b280d8e", func := "loop.example/g03300/laws.FnShapes", spec := "fnShapes", unfollowed := true, recurses := true, apart := false }
def FnShapesSaid : Prop := fnShapesRow.holds Try.pinned (OpenSpec.ofChange fnShapesSpec)

/-- ITS FALSE NEIGHBOUR: 'it returns false'. Refute it at one input. -/
def fnShapesWrong : ChangeSpec := { name := "fnShapes", fn := fun _ => fun
  | [d] => { results := [.lit (.bool false)], args := [d] }
  | _ => none }
def FnShapesWrongFalsely : Prop := fnShapesRow.holds Try.pinned (OpenSpec.ofChange fnShapesWrong)

/-- 'laws.FnExactCountShape': WHATEVER THE INPUT: true; the input reads as it did. -/
def fnExactCountShapeSpec : ChangeSpec := { name := "fnExactCountShape", fn := fun _ => fun
  | [d1, d2] => { results := [.lit (.bool true)], args := [d1, d2] }
  | _ => none }
def fnExactCountShapeRow : OpenClaim := { program := "ythclolooidnniaa", sum := "a813698870cfe06cbfd616596d03217e8e925b60df74f0b1160297f01b280d8e", func := "loop.example/g03300/laws.FnExactCountShape", spec := "fnExactCountShape", unfollowed := true, recurses := true, apart := false }
def FnExactCountShapeSaid : Prop := fnExactCountShapeRow.holds Try.pinned (OpenSpec.ofChange fnExactCountShapeSpec)

/-- ITS FALSE NEIGHBOUR: 'it returns false'. Refute it at one input. -/
def fnExactCountShapeWrong : ChangeSpec := { name := "fnExactCountShape", fn := fun _ => fun
  | [d1, d2] => { results := [.lit (.bool false)], args := [d1, d2] }
  | _ => none }
def FnExactCountShapeWrongFalsely : Prop := fnExactCountShapeRow.holds Try.pinned (OpenSpec.ofChange fnExactCountShapeWrong)

/- THE SECOND FORM. 'bulk': how many values and letters a reading holds, each counted each time it is reached (what is shared counts as often as it is met; a slice's spare places count too). A statement '..UptoSaid' is the law's where the arguments, and the package variables that the reading takes, are together of bulk at most 1048576: NARROWER than '..Said'. Prove '..Said' where nothing that the law and all that it calls make is longer than what came in: it says more and counts as full. Else prove '..UptoSaid'. A law counts once. -/
mutual
def uptoBulk {H : Type} : DataW H → Nat
  | .lit (.string bytes) => bytes.length + 1
  | .lit _ => 1
  | .nil => 1
  | .ptr d => uptoBulk d + 1
  | .slice elems spare => uptoBulkAll elems + uptoBulkAll spare + 1
  | .agg parts => uptoBulkAll parts + 1
  | .iface _ d => uptoBulk d + 1
  | .map entries => uptoBulkEntries entries + 1
  | .held _ => 1
def uptoBulkAll {H : Type} : List (DataW H) → Nat
  | [] => 0
  | d :: r => uptoBulk d + uptoBulkAll r
def uptoBulkEntries {H : Type} : List (Lit × DataW H) → Nat
  | [] => 0
  | x :: r => uptoBulkEntry x + uptoBulkEntries r
def uptoBulkEntry {H : Type} : Lit × DataW H → Nat
  | (.string bytes, d) => bytes.length + uptoBulk d + 1
  | (_, d) => uptoBulk d + 1
 end
def uptoSmall : (H : Type) → List (DataW H) → Bool := fun _ ds => decide (uptoBulkAll ds ≤ 1048576)
def OpenSpec.upto (s : _root_.Go.ChangeSpec) : _root_.Go.OpenSpec := { _root_.Go.OpenSpec.ofChange s with cond := some uptoSmall }

/-- 'laws.FnExactIsProof', WHERE WHAT IT READS IS OF BULK AT MOST 1048576: true; the input reads as it did. -/
def fnExactIsProofUptoRow : OpenClaim := { program := "ythclolooidnniaa", sum := "a813698870cfe06cbfd616596d03217e8e925b60df74f0b1160297f01b280d8e", func := "loop.example/g03300/laws.FnExactIsProof", spec := "fnExactIsProof", apart := false, narrowed := true }
def FnExactIsProofUptoSaid : Prop := fnExactIsProofUptoRow.holds Try.pinned (OpenSpec.upto fnExactIsProofSpec)

/-- 'laws.FnProofs', WHERE WHAT IT READS IS OF BULK AT MOST 1048576: true; the input reads as it did. -/
def fnProofsUptoRow : OpenClaim := { program := "ythclolooidnniaa", sum := "a813698870cfe06cbfd616596d03217e8e925b60df74f0b1160297f01b280d8e", func := "loop.example/g03300/laws.FnProofs", spec := "fnProofs", recurses := true, apart := false, narrowed := true }
def FnProofsUptoSaid : Prop := fnProofsUptoRow.holds Try.pinned (OpenSpec.upto fnProofsSpec)

/-- 'laws.FnExactWeightAt', WHERE WHAT IT READS IS OF BULK AT MOST 1048576: true; the input reads as it did. -/
def fnExactWeightAtUptoRow : OpenClaim := { program := "ythclolooidnniaa", sum := "a813698870cfe06cbfd616596d03217e8e925b60df74f0b1160297f01b280d8e", func := "loop.example/g03300/laws.FnExactWeightAt", spec := "fnExactWeightAt", apart := false, narrowed := true }
def FnExactWeightAtUptoSaid : Prop := fnExactWeightAtUptoRow.holds Try.pinned (OpenSpec.upto fnExactWeightAtSpec)

/-- 'laws.FnExactColorCounts', WHERE WHAT IT READS IS OF BULK AT MOST 1048576: true; the input reads as it did. -/
def fnExactColorCountsUptoRow : OpenClaim := { program := "ythclolooidnniaa", sum := "a813698870cfe06cbfd616596d03217e8e925b60df74f0b1160297f01b280d8e", func := "loop.example/g03300/laws.FnExactColorCounts", spec := "fnExactColorCounts", apart := false, narrowed := true }
def FnExactColorCountsUptoSaid : Prop := fnExactColorCountsUptoRow.holds Try.pinned (OpenSpec.upto fnExactColorCountsSpec)

/-- 'laws.FnExactShapeOk', WHERE WHAT IT READS IS OF BULK AT MOST 1048576: true; the input reads as it did. -/
def fnExactShapeOkUptoRow : OpenClaim := { program := "ythclolooidnniaa", sum := "a813698870cfe06cbfd616596d03217e8e925b60df74f0b1160297f01b280d8e", func := "loop.example/g03300/laws.FnExactShapeOk", spec := "fnExactShapeOk", apart := false, narrowed := true }
def FnExactShapeOkUptoSaid : Prop := fnExactShapeOkUptoRow.holds Try.pinned (OpenSpec.upto fnExactShapeOkSpec)

/-- 'laws.FnExactWeightOf', WHERE WHAT IT READS IS OF BULK AT MOST 1048576: true; the input reads as it did. -/
def fnExactWeightOfUptoRow : OpenClaim := { program := "ythclolooidnniaa", sum := "a813698870cfe06cbfd616596d03217e8e925b60df74f0b1160297f01b280d8e", func := "loop.example/g03300/laws.FnExactWeightOf", spec := "fnExactWeightOf", apart := false, narrowed := true }
def FnExactWeightOfUptoSaid : Prop := fnExactWeightOfUptoRow.holds Try.pinned (OpenSpec.upto fnExactWeightOfSpec)

/-- 'laws.FnExactFitShape', WHERE WHAT IT READS IS OF BULK AT MOST 1048576: true; the input reads as it did. -/
def fnExactFitShapeUptoRow : OpenClaim := { program := "ythclolooidnniaa", sum := "a813698870cfe06cbfd616596d03217e8e925b60df74f0b1160297f01b280d8e", func := "loop.example/g03300/laws.FnExactFitShape", spec := "fnExactFitShape", apart := false, narrowed := true }
def FnExactFitShapeUptoSaid : Prop := fnExactFitShapeUptoRow.holds Try.pinned (OpenSpec.upto fnExactFitShapeSpec)

/-- 'laws.FnExactIsSymmetricShape', WHERE WHAT IT READS IS OF BULK AT MOST 1048576: true; the input reads as it did. -/
def fnExactIsSymmetricShapeUptoRow : OpenClaim := { program := "ythclolooidnniaa", sum := "a813698870cfe06cbfd616596d03217e8e925b60df74f0b1160297f01b280d8e", func := "loop.example/g03300/laws.FnExactIsSymmetricShape", spec := "fnExactIsSymmetricShape", apart := false, narrowed := true }
def FnExactIsSymmetricShapeUptoSaid : Prop := fnExactIsSymmetricShapeUptoRow.holds Try.pinned (OpenSpec.upto fnExactIsSymmetricShapeSpec)

/-- 'laws.FnExactTurnsOfShape', WHERE WHAT IT READS IS OF BULK AT MOST 1048576: true; the input reads as it did. -/
def fnExactTurnsOfShapeUptoRow : OpenClaim := { program := "ythclolooidnniaa", sum := "a813698870cfe06cbfd616596d03217e8e925b60df74f0b1160297f01b280d8e", func := "loop.example/g03300/laws.FnExactTurnsOfShape", spec := "fnExactTurnsOfShape", apart := false, narrowed := true }
def FnExactTurnsOfShapeUptoSaid : Prop := fnExactTurnsOfShapeUptoRow.holds Try.pinned (OpenSpec.upto fnExactTurnsOfShapeSpec)

/-- 'laws.FnExactIsNeutral', WHERE WHAT IT READS IS OF BULK AT MOST 1048576: true; the input reads as it did. -/
def fnExactIsNeutralUptoRow : OpenClaim := { program := "ythclolooidnniaa", sum := "a813698870cfe06cbfd616596d03217e8e925b60df74f0b1160297f01b280d8e", func := "loop.example/g03300/laws.FnExactIsNeutral", spec := "fnExactIsNeutral", apart := false, narrowed := true }
def FnExactIsNeutralUptoSaid : Prop := fnExactIsNeutralUptoRow.holds Try.pinned (OpenSpec.upto fnExactIsNeutralSpec)

/-- 'laws.FnShapes', WHERE WHAT IT READS IS OF BULK AT MOST 1048576: true; the input reads as it did. -/
def fnShapesUptoRow : OpenClaim := { program := "ythclolooidnniaa", sum := "a813698870cfe06cbfd616596d03217e8e925b60df74f0b1160297f01b280d8e", func := "loop.example/g03300/laws.FnShapes", spec := "fnShapes", unfollowed := true, recurses := true, apart := false, narrowed := true }
def FnShapesUptoSaid : Prop := fnShapesUptoRow.holds Try.pinned (OpenSpec.upto fnShapesSpec)

/-- 'laws.FnExactCountShape', WHERE WHAT IT READS IS OF BULK AT MOST 1048576: true; the input reads as it did. -/
def fnExactCountShapeUptoRow : OpenClaim := { program := "ythclolooidnniaa", sum := "a813698870cfe06cbfd616596d03217e8e925b60df74f0b1160297f01b280d8e", func := "loop.example/g03300/laws.FnExactCountShape", spec := "fnExactCountShape", unfollowed := true, recurses := true, apart := false, narrowed := true }
def FnExactCountShapeUptoSaid : Prop := fnExactCountShapeUptoRow.holds Try.pinned (OpenSpec.upto fnExactCountShapeSpec)

end Rows
end Go.Proofs.Ythclolooidnniaa

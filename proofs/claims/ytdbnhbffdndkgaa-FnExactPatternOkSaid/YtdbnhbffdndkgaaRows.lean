/-
  No cell of these rows narrows 'for every input' (looked for: loops, veiled, ifaces, maps, wideKeys, modest, calm, conditions, laid).
  DERIVED. THE GIVEN ROWS OF THIS SEAT. 12 by the template 'for every input the law returns true; each argument reads behind the call as it read before'; 0 by the template 'total and deterministic' (their statements: YtdbnhbffdndkgaaTotals.lean).
  GIVEN WITH THE SEED: the statements are not yours to turn. If you find one false, say at which input.
  Laid BY PROGRAM, IN A SANDBOX (cutbox-rows.mjs): the forced cells as the released guide's own fill.sh prints them over the translation d99cb18375340e5a… (all of the seat's roots in one cut). By AI agents, Wed Nov 11 2026. No macro, syntax, notation, axiom, sorry.
-/
import Derived.Test.YtdbnhbffdndkgaaChecked
import GoSem.Claim
import GoSem.ClaimJoined
import GoSem.ClaimMapViews
import Derived.JoinedTies
import Derived.KernelRfl
namespace Go.Proofs.Ytdbnhbffdndkgaa
/- THE CELL 'sum', in the pinned program and in every row, IS THE sha256 OF THE DUMP (.gsa) THAT YtdbnhbffdndkgaaProg.lean LOADS. Nothing in Lean hashes anything: it is a label: what it is worth is what the hold of that sum in a sandbox is worth. -/
noncomputable def Try.pinned : Pinned := { name := "ytdbnhbffdndkgaa", sum := "d99cb18375340e5af65ccafdabe96874011fd5307cb98add8d5b31a76192b219", checked := Try.checked }
namespace Rows
def none {H : Type} : Left H := { results := [], args := [] }

/-- 'laws.FnExactLongOk': WHATEVER THE INPUT: true; the input reads as it did. -/
def fnExactLongOkSpec : ChangeSpec := { name := "fnExactLongOk", fn := fun _ => fun
  | [d1, d2, d3] => { results := [.lit (.bool true)], args := [d1, d2, d3] }
  | _ => none }
def fnExactLongOkRow : OpenClaim := { program := "ytdbnhbffdndkgaa", sum := "d99cb18375340e5af65ccafdabe96874011fd5307cb98add8d5b31a76192b219", func := "loop.example/g03300/laws.FnExactLongOk", spec := "fnExactLongOk", apart := false }
def FnExactLongOkSaid : Prop := fnExactLongOkRow.holds Try.pinned (OpenSpec.ofChange fnExactLongOkSpec)

/-- ITS FALSE NEIGHBOUR: 'it returns false'. Refute it at one input. -/
def fnExactLongOkWrong : ChangeSpec := { name := "fnExactLongOk", fn := fun _ => fun
  | [d1, d2, d3] => { results := [.lit (.bool false)], args := [d1, d2, d3] }
  | _ => none }
def FnExactLongOkWrongFalsely : Prop := fnExactLongOkRow.holds Try.pinned (OpenSpec.ofChange fnExactLongOkWrong)

/-- 'laws.FnExactCanLong': WHATEVER THE INPUT: true; the input reads as it did. -/
def fnExactCanLongSpec : ChangeSpec := { name := "fnExactCanLong", fn := fun _ => fun
  | [d1, d2, d3] => { results := [.lit (.bool true)], args := [d1, d2, d3] }
  | _ => none }
def fnExactCanLongRow : OpenClaim := { program := "ytdbnhbffdndkgaa", sum := "d99cb18375340e5af65ccafdabe96874011fd5307cb98add8d5b31a76192b219", func := "loop.example/g03300/laws.FnExactCanLong", spec := "fnExactCanLong", apart := false }
def FnExactCanLongSaid : Prop := fnExactCanLongRow.holds Try.pinned (OpenSpec.ofChange fnExactCanLongSpec)

/-- ITS FALSE NEIGHBOUR: 'it returns false'. Refute it at one input. -/
def fnExactCanLongWrong : ChangeSpec := { name := "fnExactCanLong", fn := fun _ => fun
  | [d1, d2, d3] => { results := [.lit (.bool false)], args := [d1, d2, d3] }
  | _ => none }
def FnExactCanLongWrongFalsely : Prop := fnExactCanLongRow.holds Try.pinned (OpenSpec.ofChange fnExactCanLongWrong)

/-- 'laws.FnExactCornerOk': WHATEVER THE INPUT: true; the input reads as it did. -/
def fnExactCornerOkSpec : ChangeSpec := { name := "fnExactCornerOk", fn := fun _ => fun
  | [d] => { results := [.lit (.bool true)], args := [d] }
  | _ => none }
def fnExactCornerOkRow : OpenClaim := { program := "ytdbnhbffdndkgaa", sum := "d99cb18375340e5af65ccafdabe96874011fd5307cb98add8d5b31a76192b219", func := "loop.example/g03300/laws.FnExactCornerOk", spec := "fnExactCornerOk", apart := false }
def FnExactCornerOkSaid : Prop := fnExactCornerOkRow.holds Try.pinned (OpenSpec.ofChange fnExactCornerOkSpec)

/-- ITS FALSE NEIGHBOUR: 'it returns false'. Refute it at one input. -/
def fnExactCornerOkWrong : ChangeSpec := { name := "fnExactCornerOk", fn := fun _ => fun
  | [d] => { results := [.lit (.bool false)], args := [d] }
  | _ => none }
def FnExactCornerOkWrongFalsely : Prop := fnExactCornerOkRow.holds Try.pinned (OpenSpec.ofChange fnExactCornerOkWrong)

/-- 'laws.FnExactPricesOk': WHATEVER THE INPUT: true; the input reads as it did. -/
def fnExactPricesOkSpec : ChangeSpec := { name := "fnExactPricesOk", fn := fun _ => fun
  | [d] => { results := [.lit (.bool true)], args := [d] }
  | _ => none }
def fnExactPricesOkRow : OpenClaim := { program := "ytdbnhbffdndkgaa", sum := "d99cb18375340e5af65ccafdabe96874011fd5307cb98add8d5b31a76192b219", func := "loop.example/g03300/laws.FnExactPricesOk", spec := "fnExactPricesOk", apart := false }
def FnExactPricesOkSaid : Prop := fnExactPricesOkRow.holds Try.pinned (OpenSpec.ofChange fnExactPricesOkSpec)

/-- ITS FALSE NEIGHBOUR: 'it returns false'. Refute it at one input. -/
def fnExactPricesOkWrong : ChangeSpec := { name := "fnExactPricesOk", fn := fun _ => fun
  | [d] => { results := [.lit (.bool false)], args := [d] }
  | _ => none }
def FnExactPricesOkWrongFalsely : Prop := fnExactPricesOkRow.holds Try.pinned (OpenSpec.ofChange fnExactPricesOkWrong)

/-- 'laws.FnExactAreEven': WHATEVER THE INPUT: true; the input reads as it did. -/
def fnExactAreEvenSpec : ChangeSpec := { name := "fnExactAreEven", fn := fun _ => fun
  | [d] => { results := [.lit (.bool true)], args := [d] }
  | _ => none }
def fnExactAreEvenRow : OpenClaim := { program := "ytdbnhbffdndkgaa", sum := "d99cb18375340e5af65ccafdabe96874011fd5307cb98add8d5b31a76192b219", func := "loop.example/g03300/laws.FnExactAreEven", spec := "fnExactAreEven", apart := false }
def FnExactAreEvenSaid : Prop := fnExactAreEvenRow.holds Try.pinned (OpenSpec.ofChange fnExactAreEvenSpec)

/-- ITS FALSE NEIGHBOUR: 'it returns false'. Refute it at one input. -/
def fnExactAreEvenWrong : ChangeSpec := { name := "fnExactAreEven", fn := fun _ => fun
  | [d] => { results := [.lit (.bool false)], args := [d] }
  | _ => none }
def FnExactAreEvenWrongFalsely : Prop := fnExactAreEvenRow.holds Try.pinned (OpenSpec.ofChange fnExactAreEvenWrong)

/-- 'laws.FnExactCountTriangles': WHATEVER THE INPUT: true; the input reads as it did. -/
def fnExactCountTrianglesSpec : ChangeSpec := { name := "fnExactCountTriangles", fn := fun _ => fun
  | [d] => { results := [.lit (.bool true)], args := [d] }
  | _ => none }
def fnExactCountTrianglesRow : OpenClaim := { program := "ytdbnhbffdndkgaa", sum := "d99cb18375340e5af65ccafdabe96874011fd5307cb98add8d5b31a76192b219", func := "loop.example/g03300/laws.FnExactCountTriangles", spec := "fnExactCountTriangles", unfollowed := true, recurses := true, apart := false }
def FnExactCountTrianglesSaid : Prop := fnExactCountTrianglesRow.holds Try.pinned (OpenSpec.ofChange fnExactCountTrianglesSpec)

/-- ITS FALSE NEIGHBOUR: 'it returns false'. Refute it at one input. -/
def fnExactCountTrianglesWrong : ChangeSpec := { name := "fnExactCountTriangles", fn := fun _ => fun
  | [d] => { results := [.lit (.bool false)], args := [d] }
  | _ => none }
def FnExactCountTrianglesWrongFalsely : Prop := fnExactCountTrianglesRow.holds Try.pinned (OpenSpec.ofChange fnExactCountTrianglesWrong)

/-- 'laws.FnExactIsProof': WHATEVER THE INPUT: true; the input reads as it did. -/
def fnExactIsProofSpec : ChangeSpec := { name := "fnExactIsProof", fn := fun _ => fun
  | [d1, d2, d3] => { results := [.lit (.bool true)], args := [d1, d2, d3] }
  | _ => none }
def fnExactIsProofRow : OpenClaim := { program := "ytdbnhbffdndkgaa", sum := "d99cb18375340e5af65ccafdabe96874011fd5307cb98add8d5b31a76192b219", func := "loop.example/g03300/laws.FnExactIsProof", spec := "fnExactIsProof", apart := false }
def FnExactIsProofSaid : Prop := fnExactIsProofRow.holds Try.pinned (OpenSpec.ofChange fnExactIsProofSpec)

/-- ITS FALSE NEIGHBOUR: 'it returns false'. Refute it at one input. -/
def fnExactIsProofWrong : ChangeSpec := { name := "fnExactIsProof", fn := fun _ => fun
  | [d1, d2, d3] => { results := [.lit (.bool false)], args := [d1, d2, d3] }
  | _ => none }
def FnExactIsProofWrongFalsely : Prop := fnExactIsProofRow.holds Try.pinned (OpenSpec.ofChange fnExactIsProofWrong)

/-- 'laws.FnExactPatternOk': WHATEVER THE INPUT: true; the input reads as it did. -/
def fnExactPatternOkSpec : ChangeSpec := { name := "fnExactPatternOk", fn := fun _ => fun
  | [d] => { results := [.lit (.bool true)], args := [d] }
  | _ => none }
def fnExactPatternOkRow : OpenClaim := { program := "ytdbnhbffdndkgaa", sum := "d99cb18375340e5af65ccafdabe96874011fd5307cb98add8d5b31a76192b219", func := "loop.example/g03300/laws.FnExactPatternOk", spec := "fnExactPatternOk", apart := false }
def FnExactPatternOkSaid : Prop := fnExactPatternOkRow.holds Try.pinned (OpenSpec.ofChange fnExactPatternOkSpec)

/-- ITS FALSE NEIGHBOUR: 'it returns false'. Refute it at one input. -/
def fnExactPatternOkWrong : ChangeSpec := { name := "fnExactPatternOk", fn := fun _ => fun
  | [d] => { results := [.lit (.bool false)], args := [d] }
  | _ => none }
def FnExactPatternOkWrongFalsely : Prop := fnExactPatternOkRow.holds Try.pinned (OpenSpec.ofChange fnExactPatternOkWrong)

/-- 'laws.FnExactCountChanges': WHATEVER THE INPUT: true; the input reads as it did. -/
def fnExactCountChangesSpec : ChangeSpec := { name := "fnExactCountChanges", fn := fun _ => fun
  | [d1, d2] => { results := [.lit (.bool true)], args := [d1, d2] }
  | _ => none }
def fnExactCountChangesRow : OpenClaim := { program := "ytdbnhbffdndkgaa", sum := "d99cb18375340e5af65ccafdabe96874011fd5307cb98add8d5b31a76192b219", func := "loop.example/g03300/laws.FnExactCountChanges", spec := "fnExactCountChanges", apart := false }
def FnExactCountChangesSaid : Prop := fnExactCountChangesRow.holds Try.pinned (OpenSpec.ofChange fnExactCountChangesSpec)

/-- ITS FALSE NEIGHBOUR: 'it returns false'. Refute it at one input. -/
def fnExactCountChangesWrong : ChangeSpec := { name := "fnExactCountChanges", fn := fun _ => fun
  | [d1, d2] => { results := [.lit (.bool false)], args := [d1, d2] }
  | _ => none }
def FnExactCountChangesWrongFalsely : Prop := fnExactCountChangesRow.holds Try.pinned (OpenSpec.ofChange fnExactCountChangesWrong)

/-- 'laws.FnExactCornerCells': WHATEVER THE INPUT: true; the input reads as it did. -/
def fnExactCornerCellsSpec : ChangeSpec := { name := "fnExactCornerCells", fn := fun _ => fun
  | [d] => { results := [.lit (.bool true)], args := [d] }
  | _ => none }
def fnExactCornerCellsRow : OpenClaim := { program := "ytdbnhbffdndkgaa", sum := "d99cb18375340e5af65ccafdabe96874011fd5307cb98add8d5b31a76192b219", func := "loop.example/g03300/laws.FnExactCornerCells", spec := "fnExactCornerCells", apart := false }
def FnExactCornerCellsSaid : Prop := fnExactCornerCellsRow.holds Try.pinned (OpenSpec.ofChange fnExactCornerCellsSpec)

/-- ITS FALSE NEIGHBOUR: 'it returns false'. Refute it at one input. -/
def fnExactCornerCellsWrong : ChangeSpec := { name := "fnExactCornerCells", fn := fun _ => fun
  | [d] => { results := [.lit (.bool false)], args := [d] }
  | _ => none }
def FnExactCornerCellsWrongFalsely : Prop := fnExactCornerCellsRow.holds Try.pinned (OpenSpec.ofChange fnExactCornerCellsWrong)

/-- 'laws.FnExactDoTouch': WHATEVER THE INPUT: true; the input reads as it did. -/
def fnExactDoTouchSpec : ChangeSpec := { name := "fnExactDoTouch", fn := fun _ => fun
  | [d1, d2] => { results := [.lit (.bool true)], args := [d1, d2] }
  | _ => none }
def fnExactDoTouchRow : OpenClaim := { program := "ytdbnhbffdndkgaa", sum := "d99cb18375340e5af65ccafdabe96874011fd5307cb98add8d5b31a76192b219", func := "loop.example/g03300/laws.FnExactDoTouch", spec := "fnExactDoTouch", apart := false }
def FnExactDoTouchSaid : Prop := fnExactDoTouchRow.holds Try.pinned (OpenSpec.ofChange fnExactDoTouchSpec)

/-- ITS FALSE NEIGHBOUR: 'it returns false'. Refute it at one input. -/
def fnExactDoTouchWrong : ChangeSpec := { name := "fnExactDoTouch", fn := fun _ => fun
  | [d1, d2] => { results := [.lit (.bool false)], args := [d1, d2] }
  | _ => none }
def FnExactDoTouchWrongFalsely : Prop := fnExactDoTouchRow.holds Try.pinned (OpenSpec.ofChange fnExactDoTouchWrong)

/-- 'laws.FnExactDominoPrice': WHATEVER THE INPUT: true; the input reads as it did. -/
def fnExactDominoPriceSpec : ChangeSpec := { name := "fnExactDominoPrice", fn := fun _ => fun
  | [d1, d2] => { results := [.lit (.bool true)], args := [d1, d2] }
  | _ => none }
def fnExactDominoPriceRow : OpenClaim := { program := "ytdbnhbffdndkgaa", sum := "d99cb18375340e5af65ccafdabe96874011fd5307cb98add8d5b31a76192b219", func := "loop.example/g03300/laws.FnExactDominoPrice", spec := "fnExactDominoPrice", apart := false }
def FnExactDominoPriceSaid : Prop := fnExactDominoPriceRow.holds Try.pinned (OpenSpec.ofChange fnExactDominoPriceSpec)

/-- ITS FALSE NEIGHBOUR: 'it returns false'. Refute it at one input. -/
def fnExactDominoPriceWrong : ChangeSpec := { name := "fnExactDominoPrice", fn := fun _ => fun
  | [d1, d2] => { results := [.lit (.bool false)], args := [d1, d2] }
  | _ => none }
def FnExactDominoPriceWrongFalsely : Prop := fnExactDominoPriceRow.holds Try.pinned (OpenSpec.ofChange fnExactDominoPriceWrong)

/- THE SECOND FORM. 'bulk': how many values and letters a reading holds, each counted each time it is reached (what is shared counts as often as it is met; a slice's spare places count too). A statement '..UptoSaid' is the law's where the arguments, and the package variables that the reading takes, are together of bulk at most 1048576: NARROWER than '..Said'. Prove '..Said' where nothing that the law and all that it calls make is longer than what came in: it says more and counts as full. Else prove '..UptoSaid'. A law counts once. -/
mutual
def uptoBulk {H : Type} : DataW H → Nat
  | .lit (.string bytes) => bytes.length + 1
  | .lit _ => 1
  | .nil => 1
  | .ptr d => uptoBulk d + 1
  | .slice elems spare => uptoBulkAll elems + uptoBulkAll spare + 1
  | .agg parts => uptoBulkAll parts + 1
  | .iface _ d => uptoBulk d + 1
  | .map entries => uptoBulkEntries entries + 1
  | .held _ => 1
def uptoBulkAll {H : Type} : List (DataW H) → Nat
  | [] => 0
  | d :: r => uptoBulk d + uptoBulkAll r
def uptoBulkEntries {H : Type} : List (Lit × DataW H) → Nat
  | [] => 0
  | x :: r => uptoBulkEntry x + uptoBulkEntries r
def uptoBulkEntry {H : Type} : Lit × DataW H → Nat
  | (.string bytes, d) => bytes.length + uptoBulk d + 1
  | (_, d) => uptoBulk d + 1
 end
def uptoSmall : (H : Type) → List (DataW H) → Bool := fun _ ds => decide (uptoBulkAll ds ≤ 1048576)
def OpenSpec.upto (s : _root_.Go.ChangeSpec) : _root_.Go.OpenSpec := { _root_.Go.OpenSpec.ofChange s with cond := some uptoSmall }

/-- 'laws.FnExactLongOk', WHERE WHAT IT READS IS OF BULK AT MOST 1048576: true; the input reads as it did. -/
def fnExactLongOkUptoRow : OpenClaim := { program := "ytdbnhbffdndkgaa", sum := "d99cb18375340e5af65ccafdabe96874011fd5307cb98add8d5b31a76192b219", func := "loop.example/g03300/laws.FnExactLongOk", spec := "fnExactLongOk", apart := false, narrowed := true }
def FnExactLongOkUptoSaid : Prop := fnExactLongOkUptoRow.holds Try.pinned (OpenSpec.upto fnExactLongOkSpec)

/-- 'laws.FnExactCanLong', WHERE WHAT IT READS IS OF BULK AT MOST 1048576: true; the input reads as it did. -/
def fnExactCanLongUptoRow : OpenClaim := { program := "ytdbnhbffdndkgaa", sum := "d99cb18375340e5af65ccafdabe96874011fd5307cb98add8d5b31a76192b219", func := "loop.example/g03300/laws.FnExactCanLong", spec := "fnExactCanLong", apart := false, narrowed := true }
def FnExactCanLongUptoSaid : Prop := fnExactCanLongUptoRow.holds Try.pinned (OpenSpec.upto fnExactCanLongSpec)

/-- 'laws.FnExactCornerOk', WHERE WHAT IT READS IS OF BULK AT MOST 1048576: true; the input reads as it did. -/
def fnExactCornerOkUptoRow : OpenClaim := { program := "ytdbnhbffdndkgaa", sum := "d99cb18375340e5af65ccafdabe96874011fd5307cb98add8d5b31a76192b219", func := "loop.example/g03300/laws.FnExactCornerOk", spec := "fnExactCornerOk", apart := false, narrowed := true }
def FnExactCornerOkUptoSaid : Prop := fnExactCornerOkUptoRow.holds Try.pinned (OpenSpec.upto fnExactCornerOkSpec)

/-- 'laws.FnExactPricesOk', WHERE WHAT IT READS IS OF BULK AT MOST 1048576: true; the input reads as it did. -/
def fnExactPricesOkUptoRow : OpenClaim := { program := "ytdbnhbffdndkgaa", sum := "d99cb18375340e5af65ccafdabe96874011fd5307cb98add8d5b31a76192b219", func := "loop.example/g03300/laws.FnExactPricesOk", spec := "fnExactPricesOk", apart := false, narrowed := true }
def FnExactPricesOkUptoSaid : Prop := fnExactPricesOkUptoRow.holds Try.pinned (OpenSpec.upto fnExactPricesOkSpec)

/-- 'laws.FnExactAreEven', WHERE WHAT IT READS IS OF BULK AT MOST 1048576: true; the input reads as it did. -/
def fnExactAreEvenUptoRow : OpenClaim := { program := "ytdbnhbffdndkgaa", sum := "d99cb18375340e5af65ccafdabe96874011fd5307cb98add8d5b31a76192b219", func := "loop.example/g03300/laws.FnExactAreEven", spec := "fnExactAreEven", apart := false, narrowed := true }
def FnExactAreEvenUptoSaid : Prop := fnExactAreEvenUptoRow.holds Try.pinned (OpenSpec.upto fnExactAreEvenSpec)

/-- 'laws.FnExactCountTriangles', WHERE WHAT IT READS IS OF BULK AT MOST 1048576: true; the input reads as it did. -/
def fnExactCountTrianglesUptoRow : OpenClaim := { program := "ytdbnhbffdndkgaa", sum := "d99cb18375340e5af65ccafdabe96874011fd5307cb98add8d5b31a76192b219", func := "loop.example/g03300/laws.FnExactCountTriangles", spec := "fnExactCountTriangles", unfollowed := true, recurses := true, apart := false, narrowed := true }
def FnExactCountTrianglesUptoSaid : Prop := fnExactCountTrianglesUptoRow.holds Try.pinned (OpenSpec.upto fnExactCountTrianglesSpec)

/-- 'laws.FnExactIsProof', WHERE WHAT IT READS IS OF BULK AT MOST 1048576: true; the input reads as it did. -/
def fnExactIsProofUptoRow : OpenClaim := { program := "ytdbnhbffdndkgaa", sum := "d99cb18375340e5af65ccafdabe96874011fd5307cb98add8d5b31a76192b219", func := "loop.example/g03300/laws.FnExactIsProof", spec := "fnExactIsProof", apart := false, narrowed := true }
def FnExactIsProofUptoSaid : Prop := fnExactIsProofUptoRow.holds Try.pinned (OpenSpec.upto fnExactIsProofSpec)

/-- 'laws.FnExactPatternOk', WHERE WHAT IT READS IS OF BULK AT MOST 1048576: true; the input reads as it did. -/
def fnExactPatternOkUptoRow : OpenClaim := { program := "ytdbnhbffdndkgaa", sum := "d99cb18375340e5af65ccafdabe96874011fd5307cb98add8d5b31a76192b219", func := "loop.example/g03300/laws.FnExactPatternOk", spec := "fnExactPatternOk", apart := false, narrowed := true }
def FnExactPatternOkUptoSaid : Prop := fnExactPatternOkUptoRow.holds Try.pinned (OpenSpec.upto fnExactPatternOkSpec)

/-- 'laws.FnExactCountChanges', WHERE WHAT IT READS IS OF BULK AT MOST 1048576: true; the input reads as it did. -/
def fnExactCountChangesUptoRow : OpenClaim := { program := "ytdbnhbffdndkgaa", sum := "d99cb18375340e5af65ccafdabe96874011fd5307cb98add8d5b31a76192b219", func := "loop.example/g03300/laws.FnExactCountChanges", spec := "fnExactCountChanges", apart := false, narrowed := true }
def FnExactCountChangesUptoSaid : Prop := fnExactCountChangesUptoRow.holds Try.pinned (OpenSpec.upto fnExactCountChangesSpec)

/-- 'laws.FnExactCornerCells', WHERE WHAT IT READS IS OF BULK AT MOST 1048576: true; the input reads as it did. -/
def fnExactCornerCellsUptoRow : OpenClaim := { program := "ytdbnhbffdndkgaa", sum := "d99cb18375340e5af65ccafdabe96874011fd5307cb98add8d5b31a76192b219", func := "loop.example/g03300/laws.FnExactCornerCells", spec := "fnExactCornerCells", apart := false, narrowed := true }
def FnExactCornerCellsUptoSaid : Prop := fnExactCornerCellsUptoRow.holds Try.pinned (OpenSpec.upto fnExactCornerCellsSpec)

/-- 'laws.FnExactDoTouch', WHERE WHAT IT READS IS OF BULK AT MOST 1048576: true; the input reads as it did. -/
def fnExactDoTouchUptoRow : OpenClaim := { program := "ytdbnhbffdndkgaa", sum := "d99cb18375340e5af65ccafdabe96874011fd5307cb98add8d5b31a76192b219", func := "loop.example/g03300/laws.FnExactDoTouch", spec := "fnExactDoTouch", apart := false, narrowed := true }
def FnExactDoTouchUptoSaid : Prop := fnExactDoTouchUptoRow.holds Try.pinned (OpenSpec.upto fnExactDoTouchSpec)

/-- 'laws.FnExactDominoPrice', WHERE WHAT IT READS IS OF BULK AT MOST 1048576: true; the input reads as it did. -/
def fnExactDominoPriceUptoRow : OpenClaim := { program := "ytdbnhbffdndkgaa", sum := "d99cb18375340e5af65ccafdabe96874011fd5307cb98add8d5b31a76192b219", func := "loop.example/g03300/laws.FnExactDominoPrice", spec := "fnExactDominoPrice", apart := false, narrowed := true }
def FnExactDominoPriceUptoSaid : Prop := fnExactDominoPriceUptoRow.holds Try.pinned (OpenSpec.upto fnExactDominoPriceSpec)

end Rows
end Go.Proofs.Ytdbnhbffdndkgaa

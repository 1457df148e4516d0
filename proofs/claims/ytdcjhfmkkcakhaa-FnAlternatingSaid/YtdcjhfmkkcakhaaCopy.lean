/-
  Contract of copyOf of the program: it returns a copy; nothing that was there is written; at most 1048576 numbers.
-/
import Derived.Test.YtdcjhfmkkcakhaaApp
import Derived.Deep.DeepMust
namespace Go.Proofs.Ytdcjhfmkkcakhaa
open Go.ChangeShapes Go.WideShapes Go.ChangeAt Go.RowKit Go.Deep
set_option linter.unusedVariables false

theorem copyOf_any (A : Option Addr) (N c : Nat) (l : List Int) (w : World) (hN : N = l.length) (hl : N ≤ 1048576) (hr : RdI w A l) :
    Calls Try.prog 194 #[.slice A N c] w fun e w' => ∃ v, e = .returned v ∧ OwI w.heap.size w' v l ∧ Below w.heap.size w w' := by
  have HN := Lib.hid hN
  have Hr := Lib.hid hr
  have Ow0 := Lib.hid (OwI.new_ (B := w.heap.size) (w := w) (Nat.le_refl _))
  have hB := bl_alloc (Below.refl w.heap.size w) (.cells #[] 3)
  clear hN hr
  go_enter Try.func194, Try.ntmps194
  go_wp2_with (at_builtin; (refine wpList_apsI rfl (.tmp 3) (.tmp 4) rfl w.heap.size _ [] l _ c rfl _ rfl Ow0.out (Hr.out.below (by go_grown)) HN.out (by simp) (by simp) (by have := HN.out; omega) ?_); intro A1 L1 c1 w1 hL1 o1 b1 g1; go_must (have hB1 := b1 _ hB; have O1 := Lib.hid o1; clear o1 b1 g1))
  go_ret
  exact ⟨_, rfl, O1.out, hB1⟩
end Go.Proofs.Ytdcjhfmkkcakhaa

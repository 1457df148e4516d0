/-
  The plain law of FnTriangles: of the 52 matrices that are drawn, each is a triangle of numbers. No program in sight.
-/
import Derived.Test.YtdcjhfmkkcakhaaL25P
import Derived.Test.YtdcjhfmkkcakhaaTriOf
import Derived.Test.YtdcjhfmkkcakhaaMat
import Derived.Test.YtdcjhfmkkcakhaaAbove
import Derived.Test.YtdcjhfmkkcakhaaAcS
namespace Go.Proofs.Ytdcjhfmkkcakhaa
open Go.ChangeShapes Go.WideShapes Go.ChangeAt Go.RowKit Go.Deep
set_option linter.unusedVariables false
def triLaw (m : List (List Int)) : Bool := altB m && isTri (triR m) && (matR (triR m) == m) && decide ((triR m).length = m.length) && decide (m.length ≤ 5) && (m.all fun r => decide (r.length ≤ 5)) && ((triR m).all fun r => decide (r.length ≤ 5)) && ((triR m).drop 1).all fun r => decide (1 ≤ cntU r)
theorem tri_all : ∀ n : Fin 5, (decide (n.1 = 0) || (spL n.1).all triLaw) = true := by decide +kernel
structure TriLaw (m : List (List Int)) : Prop where
  alt : altB m = true
  tri : isTri (triR m) = true
  mat : matR (triR m) = m
  len : (triR m).length = m.length
  l5 : m.length ≤ 5
  r5 : ∀ r ∈ m, r.length ≤ 5
  t5 : ∀ r ∈ triR m, r.length ≤ 5
  und : ∀ (k : Nat) (r : List Int), 1 ≤ k → (triR m)[k]? = some r → 1 ≤ cntU r
theorem tri_law {n : Nat} {m : List (List Int)} (hn1 : 1 ≤ n) (hn : n ≤ 4) (h : m ∈ spL n) : TriLaw m := by
  have h0 := tri_all ⟨n, by omega⟩
  rw [Bool.or_eq_true, decide_eq_true_eq] at h0
  have h1 := List.all_eq_true.1 (h0.resolve_left (by show ¬ n = 0; omega)) m h
  simp only [triLaw, Bool.and_eq_true, decide_eq_true_eq, List.all_eq_true, beq_iff_eq] at h1
  obtain ⟨⟨⟨⟨⟨⟨⟨a, b⟩, c⟩, d⟩, e⟩, f⟩, g⟩, u⟩ := h1
  refine ⟨a, b, c, d, e, f, g, fun k r hk hr => u r ?_⟩
  obtain ⟨j, rfl⟩ : ∃ j, k = j + 1 := ⟨k - 1, by omega⟩
  have : ((triR m).drop 1)[j]? = some r := by rw [List.getElem?_drop, Nat.add_comm]; exact hr
  exact List.mem_of_getElem? this
theorem cntT_acS : ∀ n : Fin 6, n.1 = 0 ∨ cntT (n.1 : Int) = (acS n.1 : Nat) := by decide +kernel
theorem cntU_two : ∀ r : Fin 4, cntU [1, 2 + (r.1 : Int)] = 2 + (r.1 : Int) := by decide +kernel
end Go.Proofs.Ytdcjhfmkkcakhaa

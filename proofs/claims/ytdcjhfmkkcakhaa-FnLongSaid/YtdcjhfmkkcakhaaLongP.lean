/-
  The plain law of FnLong: the 72 cases. No program in sight.
-/
import Derived.Test.YtdcjhfmkkcakhaaCnt
import Derived.Test.YtdcjhfmkkcakhaaCanL
import Derived.Test.YtdcjhfmkkcakhaaWeigh
namespace Go.Proofs.Ytdcjhfmkkcakhaa
open Go.ChangeShapes Go.WideShapes Go.ChangeAt Go.RowKit Go.Deep
set_option linter.unusedVariables false

def longLaw (w h k : Int) : Bool :=
  (decide (countLong w h k > 0) == canLong w h k) && ((colorCounts (rectR w h) k).length == k.toNat) && ((colorCounts (rectR w h) k).sum == w * h) && (countLong w h k == 0 || areEven (colorCounts (rectR w h) k)) &&
    (countLong w h k == countLong h w k) && (decide (k > 2) || cntT (rectR w h) == countLong w h k)
theorem long_all : ∀ (w : Fin 6) (h : Fin 4) (k : Fin 3), longLaw ((w.val + 1 : Nat) : Int) ((h.val + 1 : Nat) : Int) ((k.val + 2 : Nat) : Int) = true := by decide +kernel
theorem long_facts {W H K : Nat} (h1 : 1 ≤ W) (h2 : W ≤ 6) (h3 : 1 ≤ H) (h4 : H ≤ 4) (h5 : 2 ≤ K) (h6 : K ≤ 4) :
    decide (countLong (W : Int) (H : Int) (K : Int) > 0) = canLong (W : Int) (H : Int) (K : Int) ∧ (colorCounts (rectR (W : Int) (H : Int)) (K : Int)).length = K ∧ (colorCounts (rectR (W : Int) (H : Int)) (K : Int)).sum = (W : Int) * (H : Int) ∧
      (countLong (W : Int) (H : Int) (K : Int) = 0 ∨ areEven (colorCounts (rectR (W : Int) (H : Int)) (K : Int)) = true) ∧ countLong (H : Int) (W : Int) (K : Int) = countLong (W : Int) (H : Int) (K : Int) ∧ (2 < K ∨ cntT (rectR (W : Int) (H : Int)) = countLong (W : Int) (H : Int) (K : Int)) := by
  have := long_all ⟨W - 1, by omega⟩ ⟨H - 1, by omega⟩ ⟨K - 2, by omega⟩
  simp only [show W - 1 + 1 = W by omega, show H - 1 + 1 = H by omega, show K - 2 + 2 = K by omega] at this
  unfold longLaw at this
  simp only [Bool.and_eq_true, Bool.or_eq_true, beq_iff_eq, decide_eq_true_eq] at this
  obtain ⟨⟨⟨⟨⟨a1, a2⟩, a3⟩, a4⟩, a5⟩, a6⟩ := this
  exact ⟨a1, by simpa using a2, a3, a4, a5.symm, a6.imp (fun h => by omega) id⟩
theorem sum_rng {m : Int} : ∀ {l : List Int}, (∀ x ∈ l, 0 ≤ x ∧ x ≤ m) → 0 ≤ l.sum ∧ l.sum ≤ m * l.length
  | [], _ => by simp
  | x :: l, h => by
    have h1 := h x List.mem_cons_self
    have h2 := sum_rng (l := l) fun y hy => h y (List.mem_cons_of_mem _ hy)
    rw [List.sum_cons, List.length_cons]
    push_cast
    rw [Int.mul_add]
    omega
theorem sum_take {l : List Int} {j : Nat} {x : Int} (h : l[j]? = some x) : (l.take (j + 1)).sum = (l.take j).sum + x := by
  rw [take_snoc_at h, sum_app]; simp
theorem colorCounts_rng (rs : List Int) (n : Int) : ∀ x ∈ colorCounts rs n, 0 ≤ x ∧ x ≤ 64 := by
  intro x hx
  unfold colorCounts at hx
  split at hx
  · have := colorFold_rng _ _ x hx
    have := regCells_len rs
    omega
  · simp at hx
end Go.Proofs.Ytdcjhfmkkcakhaa

/-
  Contracts of the laws' functions over slices of rows of integers (szIntSS, toIntSS, eqIntSS, markIntSS, heldIntSS): what each returns, as a function of the rows; at most 1048576 numbers.
-/
import Derived.Test.YtdcjhfmkkcakhaaRows2
import Derived.Test.YtdcjhfmkkcakhaaRow
namespace Go.Proofs.Ytdcjhfmkkcakhaa
open Go.ChangeShapes Go.WideShapes Go.ChangeAt Go.RowKit Go.Deep
set_option linter.unusedVariables false

def tot (ll : List (List Int)) : Nat := (ll.map List.length).sum
theorem tot_cons (l : List Int) (ll : List (List Int)) : tot (l :: ll) = l.length + tot ll := by simp [tot]
theorem tot_drop {ll : List (List Int)} {k : Nat} {l : List Int} (h : ll[k]? = some l) : tot (ll.drop k) = l.length + tot (ll.drop (k + 1)) := by rw [drop_at h, tot_cons]
theorem tot_take {ll : List (List Int)} {k : Nat} {l : List Int} (h : ll[k]? = some l) : tot (ll.take (k + 1)) = tot (ll.take k) + l.length := by
  rw [take_snoc_at h]; simp [tot]
theorem tot_take_le (ll : List (List Int)) (k : Nat) : tot (ll.take k) ≤ tot ll := by
  have : tot (ll.take k) + tot (ll.drop k) = tot ll := by
    rw [← Nat.add_zero (tot ll)]
    have e := congrArg (fun x => tot x) (List.take_append_drop k ll)
    simp only [tot, List.map_append, List.sum_append] at e ⊢
    omega
  omega
theorem tot_mem {ll : List (List Int)} {l : List Int} (h : l ∈ ll) : l.length ≤ tot ll := by
  obtain ⟨k, hk, rfl⟩ := List.getElem_of_mem h
  have h1 := tot_take (List.getElem?_eq_getElem hk)
  have h2 := tot_take_le ll (k + 1)
  omega
/-- all rows together fit what is left -/
def szFits (left : Int) (ll : List (List Int)) : Prop := (ll.length : Int) + tot ll ≤ left
end Go.Proofs.Ytdcjhfmkkcakhaa

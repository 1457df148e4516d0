/-
  The arguments of the statements opened: an argument that can be read as data is a list of rows of integers; no statement is proved here; no condition.
-/
import Derived.Test.YtokclhiecaffgaaOpen
import Derived.Test.YtokclhiecaffgaaSlices
namespace Go.Proofs.Ytokclhiecaffgaa
open Go.ChangeShapes Go.WideShapes Go.ChangeAt Go.RowKit Go.Deep Go.Joins
set_option linter.unusedVariables false

section
variable {H : Type} {enc : TypeId × Value → H} {P : Program} {w : World} {base : Nat} {held : Bool}
theorem op_rows {r : Reach} {b0 : Nat} {t e q : TypeId} {v : Value} {d : DataW H} {p : List MemPlace} (ht : P.underlying t = some (.slice e)) (he : P.underlying e = some (.slice q)) (hq : P.underlying q = some (.int .i64))
    (ce : P.cellsOf e = 1) (cq : P.cellsOf q = 1) (hv : Value.okWide P w r b0 t v) (h : DataW.Trod enc P w base (fun _ => true) held t v d p) :
    ∃ A c ll, v = .slice A (List.length ll) c ∧ RdII w A ll ∧ List.length ll ≤ maxLen ∧ ∀ l ∈ ll, List.length l ≤ maxLen := by
  obtain ⟨a0, n0, c0, rfl⟩ := okWide_slice ht hv
  obtain ⟨fuel, hf⟩ := h
  rcases open_int_rows ht he hq ce cq hf with ⟨hcs, _⟩ | ⟨a, len, cap, A, L, C, Z, hcs, _, hl, hcm, _, hr⟩
  · simp [Value.cells] at hcs
    obtain ⟨rfl, rfl, rfl⟩ := hcs
    exact ⟨none, 0, [], rfl, ⟨[], Rd.none_, by simp⟩, Nat.zero_le _, by simp⟩
  · simp [Value.cells] at hcs
    obtain ⟨rfl, rfl, rfl⟩ := hcs
    have hlen : ((List.range n0).map fun r => (Z r).take (L r)).length = n0 := by simp
    have hrl : ∀ r, r < n0 → ((Z r).take (L r)).length = L r := fun r hr' => by
      obtain ⟨_, h1, _, h3, _⟩ := hr r (by omega)
      rw [List.length_take]; omega
    refine ⟨some a, c0, (List.range n0).map fun r => (Z r).take (L r), by rw [hlen], ⟨(List.range n0).map fun r => Value.slice (A r) (L r) (C r), ?_, ?_⟩, by rw [hlen]; omega, ?_⟩
    · rw [hlen]
      refine Rd.mk_ (by decide) (by simp) fun j u hu => ?_
      rw [List.getElem?_map] at hu
      obtain ⟨r, hr1, hr2⟩ := Option.map_eq_some_iff.1 hu
      obtain ⟨hj, hr3⟩ := List.getElem?_eq_some_iff.1 hr1
      simp at hj hr3
      subst hr3
      subst hr2
      exact (hr j (by omega)).1
    · intro i l hi
      rw [List.getElem?_map] at hi
      obtain ⟨r, hr1, hr2⟩ := Option.map_eq_some_iff.1 hi
      obtain ⟨hj, hr3⟩ := List.getElem?_eq_some_iff.1 hr1
      simp at hj hr3
      subst hr3
      subst hr2
      obtain ⟨h0, h1, h2, h3, h4, h5, h6⟩ := hr i (by omega)
      refine ⟨A i, C i, by rw [List.getElem?_map, hr1, hrl i hj]; rfl, ⟨?_, fun x hx => .of_wf (h4 x (List.mem_of_mem_take hx))⟩⟩
      rw [hrl i hj]
      cases hA : A i with
      | none =>
        have := h5 hA
        have hz : L i = 0 := by omega
        rw [hz]
        exact Rd.none_
      | some a' =>
        refine Rd.mk_ (by decide) (by rw [List.length_map, hrl i hj, Nat.mul_one]) fun j u hu => ?_
        simp only [List.getElem?_map, List.getElem?_take] at hu
        split at hu
        · rename_i hjl
          have := (h6 a' hA).2 j (by omega)
          have e1 : (Z i)[j]? = some (Z i)[j] := List.getElem?_eq_getElem (by omega)
          rw [e1] at hu
          simp [cI] at hu
          rw [this, ← hu, List.getD_eq_getElem?_getD, e1]; rfl
        · cases hu
    · intro l hl'
      obtain ⟨r, hr1, rfl⟩ := List.mem_map.1 hl'
      have := List.mem_range.1 hr1
      rw [hrl r this]
      obtain ⟨_, h1, h2, _⟩ := hr r (by omega)
      omega
end
end Go.Proofs.Ytokclhiecaffgaa

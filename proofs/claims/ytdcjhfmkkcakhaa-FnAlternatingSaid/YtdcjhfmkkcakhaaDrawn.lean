/-
  A region that draws its order, by an invariant: whatever order is picked, each operation that may come up keeps the invariant; behind the last one all operations are listed. No statement is proved here; no condition.
-/
import Derived.Test.YtdcjhfmkkcakhaaBase
import Derived.Orders
namespace Go.Proofs.Ytdcjhfmkkcakhaa
open Go.ChangeShapes Go.WideShapes Go.ChangeAt Go.RowKit Go.Deep
set_option linter.unusedVariables false

theorem unl_set : ∀ (l : List Bool) (i : Nat), l[i]? = some false → ((l.set i true).filter (!·)).length + 1 = (l.filter (!·)).length
  | [], i, h => by simp at h
  | x :: l, 0, h => by simp at h; subst h; simp
  | x :: l, i + 1, h => by
    have := unl_set l i (by simpa using h)
    cases x <;> simp_all <;> omega
theorem unl_all : ∀ (l : List Bool), (l.filter (!·)).length = 0 → ∀ i, i < l.length → l[i]? = some true
  | [], _, i, h => by simp at h
  | true :: l, h, 0, _ => rfl
  | true :: l, h, i + 1, hi => by
    have := unl_all l (by simpa using h) i (by simpa using hi)
    simpa using this
  | false :: l, h, i, _ => by simp at h
section
variable {P : Program} {ops : Array Oper} {Q : Exit → Act → World → Prop} {md : Region.Mode} {I : Array Bool → Act → World → Prop}
def Back (ops : Array Oper) : Bool := (List.range ops.size).all fun i => match ops[i]? with
  | none => true
  | some o => o.after.toList.all fun e => decide (e.on < i)
theorem ready_nil {listed : Array Bool} (hB : Back ops = true) (hs : listed.size = ops.size) (h : Region.ready md ops listed = []) : ∀ i < ops.size, listed.getD i false = true := by
  intro i
  induction i using Nat.strongRecOn with
  | ind i ih =>
    intro hi
    cases hl : listed.getD i true with
    | true =>
      have hi2 : i < listed.size := by omega
      simp [Array.getD, hi2] at hl ⊢
      exact hl
    | false =>
      exfalso
      have : i ∈ Region.ready md ops listed := by
        rw [mem_ready]
        refine ⟨hl, ops[i], by simp [hi], fun e he _ => ?_⟩
        have h1 := List.all_eq_true.1 hB i (List.mem_range.2 hi)
        rw [Array.getElem?_eq_getElem hi] at h1
        have h2 := List.all_eq_true.1 h1 e (by simpa using he)
        have h3 : e.on < i := by simpa using h2
        exact ih e.on h3 (by omega)
      rw [h] at this
      cases this
/-- the walk of a region by an invariant -/
theorem wpAny_inv (hB : Back ops = true)
    (hstep : ∀ (listed : Array Bool) (a : Act) (w : World) (i : Nat) (o : Oper), listed.size = ops.size → I listed a w → ops[i]? = some o → listed.getD i true = false → (∀ e ∈ o.after, Region.binds md e = true → listed.getD e.on false = true) → wpOp P ops Q i (I (listed.setIfInBounds i true)) a w)
    (hend : ∀ (listed : Array Bool) (a : Act) (w : World), listed.size = ops.size → I listed a w → (∀ i < ops.size, listed.getD i false = true) → Q .normal a w) :
    ∀ (fuel : Nat) (listed : Array Bool) (a : Act) (w : World), listed.size = ops.size → (listed.toList.filter (!·)).length ≤ fuel → I listed a w → wpAny P md ops Q fuel listed a w := by
  intro fuel
  induction fuel with
  | zero =>
    intro listed a w hs hu hI
    have hall : Region.ready md ops listed = [] := by
      rw [List.eq_nil_iff_forall_not_mem]
      intro i hi
      rw [mem_ready] at hi
      obtain ⟨h1, o, h2, _⟩ := hi
      have hlt : i < ops.size := (Array.getElem?_eq_some_iff.1 h2).1
      have := unl_all listed.toList (by omega) i (by simpa [hs] using hlt)
      have hi2 : i < listed.size := by omega
      simp [Array.getD, hi2] at h1
      simp [hi2] at this
      rw [this] at h1; cases h1
    exact ⟨hall, hend listed a w hs hI (ready_nil hB hs hall)⟩
  | succ fuel ih =>
    intro listed a w hs hu hI
    refine ⟨fun h => hend listed a w hs hI (ready_nil hB hs h), fun i hi => ?_⟩
    rw [mem_ready] at hi
    obtain ⟨h1, o, h2, h3⟩ := hi
    have hlt : i < ops.size := (Array.getElem?_eq_some_iff.1 h2).1
    have hi2 : i < listed.size := by omega
    have hf : listed.toList[i]? = some false := by
      simp [Array.getD, hi2] at h1
      simp [hi2, h1]
    refine wpOp_mono (fun a' w' h => ih (listed.setIfInBounds i true) a' w' (by simpa using hs) ?_ h) (hstep listed a w i o hs hI h2 h1 h3)
    have := unl_set listed.toList i hf
    rw [Array.toList_setIfInBounds]
    omega
theorem wp_region_inv {id : Nat} {a : Act} {w : World} (hm : P.follows .mixedOrders = true) (hB : Back ops = true)
    (hstep : ∀ (listed : Array Bool) (a : Act) (w : World) (i : Nat) (o : Oper), listed.size = ops.size → I listed a w → ops[i]? = some o → listed.getD i true = false → (∀ e ∈ o.after, Region.binds .any e = true → listed.getD e.on false = true) → wpOp P ops Q i (I (listed.setIfInBounds i true)) a w)
    (hend : ∀ (listed : Array Bool) (a : Act) (w : World), listed.size = ops.size → I listed a w → (∀ i < ops.size, listed.getD i false = true) → Q .normal a w)
    (h0 : I (Array.replicate ops.size false) a w.drew) : (Code.region id ops true).wp P Q a w := by
  refine wp_region_any hm (wpAny_inv hB hstep hend ops.size _ a _ (by simp) ?_ h0)
  exact Nat.le_trans (List.length_filter_le _ _) (by simp)
end
end Go.Proofs.Ytdcjhfmkkcakhaa

/-
  Contracts of functions over one row of integers (isStrict, l26Ascending, isAbove, copyOf): what each returns, as a function of the lists; nothing that was there is written; lists of at most 1048576 numbers.
-/
import Derived.Test.YtoehmocamaamcaaIn
namespace Go.Proofs.Ytoehmocamaamcaa
open Go.ChangeShapes Go.WideShapes Go.ChangeAt Go.RowKit Go.Deep
set_option linter.unusedVariables false

theorem RdI.at2 {w : World} {A : Option Addr} {l : List Int} (h : RdI w A l) {j k : Nat} (hj : j < l.length) (hk : k < l.length) :
    ∃ b off x y, A = some ⟨b, off, none⟩ ∧ b < w.heap.size ∧ l[j]? = some x ∧ l[k]? = some y ∧ I64 x ∧ I64 y ∧ w.cell? ⟨b, off + j, none⟩ = some (.int .i64 x) ∧ w.cell? ⟨b, off + k, none⟩ = some (.int .i64 y) := by
  obtain ⟨b, off, x, hA, hb, hx, _, gx, cx⟩ := h.at_ hj
  obtain ⟨b', off', y, hA', _, hy, _, gy, cy⟩ := h.at_ hk
  rw [hA] at hA'
  injection hA' with hA'
  injection hA' with e1 e2
  subst e1; subst e2
  exact ⟨b, off, x, y, hA, hb, hx, hy, gx, gy, cx, cy⟩
/-- all numbers from k up to n have a property -/
def allFrom (f : Nat → Bool) (k n : Nat) : Bool := (List.range' k (n - k)).all f
theorem allFrom_step {f : Nat → Bool} {k n : Nat} (h : k < n) : allFrom f k n = (f k && allFrom f (k + 1) n) := by
  unfold allFrom
  rw [show n - k = (n - (k + 1)) + 1 by omega, List.range'_succ, List.all_cons]
theorem allFrom_end (f : Nat → Bool) (n : Nat) : allFrom f n n = true := by simp [allFrom]
theorem allFrom_iff {f : Nat → Bool} {n : Nat} : allFrom f 0 n = true ↔ ∀ i < n, f i = true := by
  simp [allFrom, List.mem_range']
def iAt (l : List Int) (i : Nat) : Int := (l[i]?).getD 0
theorem iAt_eq {l : List Int} {i : Nat} {x : Int} (h : l[i]? = some x) : iAt l i = x := by simp [iAt, h]
theorem iAt_in {l : List Int} {P : Int → Prop} (h : ∀ x ∈ l, P x) {i : Nat} (hi : i < l.length) : P (iAt l i) := by
  rw [iAt_eq (List.getElem?_eq_getElem hi)]; exact h _ (List.getElem_mem hi)
def ascAt (l : List Int) (i : Nat) : Bool := decide (i = 0) || decide (iAt l (i - 1) < iAt l i)
def ascB (l : List Int) : Bool := allFrom (ascAt l) 0 l.length
def strictB (l : List Int) (a b : Int) : Bool := ascB l && l.all fun x => inB x a b
theorem strictB_at (l : List Int) (a b : Int) : strictB l a b = allFrom (fun i => inB (iAt l i) a b && ascAt l i) 0 l.length := by
  rw [Bool.eq_iff_iff, strictB, Bool.and_eq_true, ascB, allFrom_iff, allFrom_iff]
  constructor
  · rintro ⟨h1, h2⟩ i hi
    rw [Bool.and_eq_true]
    refine ⟨?_, h1 i hi⟩
    rw [iAt_eq (List.getElem?_eq_getElem hi)]
    exact List.all_eq_true.1 h2 _ (List.getElem_mem hi)
  · intro h
    refine ⟨fun i hi => (Bool.and_eq_true _ _ ▸ h i hi).2, List.all_eq_true.2 fun x hx => ?_⟩
    obtain ⟨i, hi, rfl⟩ := List.getElem_of_mem hx
    have := (Bool.and_eq_true _ _ ▸ h i hi).1
    rwa [iAt_eq (List.getElem?_eq_getElem hi)] at this
theorem strictB_iff {l : List Int} {a b : Int} : strictB l a b = true ↔ (∀ i < l.length, ascAt l i = true) ∧ ∀ x ∈ l, a ≤ x ∧ x ≤ b := by
  rw [strictB, Bool.and_eq_true, ascB, allFrom_iff, List.all_eq_true]
  simp only [inB_true]
theorem allWithin_n (A : Option Addr) (N c : Nat) (l : List Int) (a b : Int) (w : World) (hN : N = l.length) (hl : N ≤ 1048576) (hr : RdI w A l) :
    Calls Try.prog 86 #[.slice A N c, .int .i64 a, .int .i64 b] w fun e w' => e = .returned (.bool (l.all fun x => inB x a b)) ∧ w = w' := by subst hN; exact allWithin_any A c l a b w hl hr
end Go.Proofs.Ytoehmocamaamcaa

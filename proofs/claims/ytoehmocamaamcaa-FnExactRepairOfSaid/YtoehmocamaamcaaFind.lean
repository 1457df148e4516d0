/-
  Contracts of DominoAt of impl and FindLaying of both packages; nothing that was there is written; at most 1048576 dominoes.
-/
import Derived.Test.YtoehmocamaamcaaTil
import Derived.Test.YtoehmocamaamcaaColors
import Derived.Deep.LoopGhost
namespace Go.Proofs.Ytoehmocamaamcaa
open Go.ChangeShapes Go.WideShapes Go.ChangeAt Go.RowKit Go.Deep
set_option linter.unusedVariables false

theorem nodup_subD : ∀ {a b : List Dm}, a.Nodup → (∀ x ∈ a, x ∈ b) → a.length ≤ b.length := by
  intro a
  induction a with
  | nil => intro b _ _; simp
  | cons x a ih =>
    intro b hd hs
    rw [List.nodup_cons] at hd
    have hx := hs x (by simp)
    have h1 := ih (b := b.erase x) hd.2 (fun y hy => by
      have : y ≠ x := fun e => hd.1 (e ▸ hy)
      exact (List.mem_erase_of_ne this).2 (hs y (by simp [hy])))
    rw [List.length_erase_of_mem hx] at h1
    have : 0 < b.length := List.length_pos_of_mem hx
    rw [List.length_cons]; omega
def tch (d e : Dm) : Bool := touch d.1 d.2.1 d.2.2 e.1 e.2.1 e.2.2
theorem tch_comm (d e : Dm) : tch d e = tch e d := touch_comm ..
def canD (out : List Dm) (d : Dm) : Bool := !decide (d ∈ out) && out.any (tch d)
def canAt (list out : List Dm) (j : Nat) : Bool := match list[j]? with
  | some d => canD out d
  | none => false
theorem canAt_at {list out : List Dm} {j : Nat} {d : Dm} (h : list[j]? = some d) : canAt list out j = canD out d := by unfold canAt; rw [h]
def nextAt (list out : List Dm) : Nat → Nat → Option Nat
  | 0, _ => none
  | f + 1, j => if canAt list out j then some j else nextAt list out f (j + 1)
def nextD (list out : List Dm) : Option Nat := nextAt list out list.length 0
theorem nextAt_none {list out : List Dm} : ∀ (f j : Nat), (∀ i, j ≤ i → i < j + f → canAt list out i = false) → nextAt list out f j = none := by
  intro f
  induction f with
  | zero => intro j _; rfl
  | succ f ih =>
    intro j h
    rw [nextAt, h j (Nat.le_refl _) (by omega), if_neg (by decide)]
    exact ih (j + 1) fun i h1 h2 => h i (by omega) (by omega)
theorem nextAt_some {list out : List Dm} {k : Nat} (hk : canAt list out k = true) : ∀ (f j : Nat), j ≤ k → k < j + f → (∀ i, j ≤ i → i < k → canAt list out i = false) → nextAt list out f j = some k := by
  intro f
  induction f with
  | zero => intro j h1 h2; omega
  | succ f ih =>
    intro j h1 h2 h
    rw [nextAt]
    rcases Nat.lt_or_ge j k with h3 | h3
    · rw [h j (Nat.le_refl _) h3, if_neg (by decide)]
      exact ih (j + 1) h3 (by omega) fun i h4 h5 => h i (by omega) h5
    · have : j = k := by omega
      rw [this, hk, if_pos rfl]
theorem nextD_none {list out : List Dm} (h : ∀ i < list.length, canAt list out i = false) : nextD list out = none := nextAt_none _ _ fun i _ h2 => h i (by omega)
theorem nextD_some {list out : List Dm} {k : Nat} (hk : canAt list out k = true) (hlt : k < list.length) (h : ∀ i < k, canAt list out i = false) : nextD list out = some k := nextAt_some hk _ _ (Nat.zero_le _) (by omega) fun i _ h2 => h i h2
def layL (list : List Dm) : Nat → List Dm → List Dm
  | 0, out => out
  | f + 1, out => match nextD list out with
    | none => out
    | some k => match list[k]? with
      | none => out
      | some d => layL list f (d :: out)
theorem layL_end {list out : List Dm} (f : Nat) (h : ∀ i < list.length, canAt list out i = false) : layL list f out = out := by
  cases f with
  | zero => rfl
  | succ f => rw [layL, nextD_none h]
theorem layL_step {list out : List Dm} {f k : Nat} {d : Dm} (hd : list[k]? = some d) (hk : canD out d = true) (h : ∀ i < k, canAt list out i = false) : layL list (f + 1) out = layL list f (d :: out) := by
  obtain ⟨hlt, _⟩ := List.getElem?_eq_some_iff.1 hd
  rw [layL, nextD_some (by rw [canAt_at hd]; exact hk) hlt h]
  simp only [hd]
structure GoodD (list out : List Dm) : Prop where
  nd : out.Nodup
  sub : ∀ d ∈ out, d ∈ list
theorem GoodD.len {list out : List Dm} (h : GoodD list out) : out.length ≤ list.length := nodup_subD h.nd h.sub
theorem GoodD.cons {list out : List Dm} (h : GoodD list out) {k : Nat} {d : Dm} (hd : list[k]? = some d) (hk : canD out d = true) : GoodD list (d :: out) := by
  unfold canD at hk
  rw [Bool.and_eq_true, Bool.not_eq_true', decide_eq_false_iff_not] at hk
  refine ⟨List.nodup_cons.2 ⟨hk.1, h.nd⟩, fun e he => ?_⟩
  rcases List.mem_cons.1 he with rfl | he
  · exact List.mem_of_getElem? hd
  · exact h.sub e he
theorem GoodD.full {list out : List Dm} (h : GoodD list out) (hl : out.length = list.length) : ∀ i < list.length, canAt list out i = false := by
  intro i hi
  have hv : list[i]? = some list[i] := List.getElem?_eq_getElem hi
  rw [canAt_at hv]
  unfold canD
  have : list[i] ∈ out := by
    refine Decidable.byContradiction fun hn => ?_
    have := nodup_subD (a := list[i] :: out) (b := list) (List.nodup_cons.2 ⟨hn, h.nd⟩) (fun e he => by
      rcases List.mem_cons.1 he with rfl | he
      · exact List.getElem_mem hi
      · exact h.sub e he)
    rw [List.length_cons] at this
    omega
  rw [decide_eq_true this]; rfl
def doorD (list : List Dm) (c : Cl) : Dm := dAt list (domAt list c 0).toNat
def findLay (rs : List Int) (c : Cl) (list : List Dm) : Option (List Dm) :=
  if isTiling rs list && (regOk rs && cellOk c.1 c.2 && regHas rs c.1 c.2) then
    if (layL list list.length [doorD list c]).length = list.length then some (layL list list.length [doorD list c]) else none
  else none
theorem findLay_len (rs : List Int) (c : Cl) (list : List Dm) : ((findLay rs c list).getD []).length ≤ list.length := by
  unfold findLay
  split
  · split
    · rename_i h; rw [Option.getD_some, h]; exact Nat.le_refl _
    · simp
  · simp
theorem domAt_found : ∀ (l : List Dm) (c : Cl) (k : Int), 0 ≤ k → 0 ≤ domAt l c k → ∃ j : Nat, domAt l c k = k + j ∧ j < l.length := by
  intro l
  induction l with
  | nil => intro c k _ h; simp [domAt] at h
  | cons d l ih =>
    intro c k hk h
    rw [domAt] at h ⊢
    split
    · exact ⟨0, by simp, by simp⟩
    · rename_i hn
      rw [if_neg hn] at h
      obtain ⟨j, h1, h2⟩ := ih c (k + 1) (by omega) h
      exact ⟨j + 1, by rw [h1]; push_cast; omega, by simp; omega⟩
theorem door_at {rs : List Int} {list : List Dm} {x y : Int} (h1 : isTiling rs list = true) (h2 : (regOk rs && cellOk x y && regHas rs x y) = true) : ∃ k : Nat, domAt list (x, y) 0 = (k : Int) ∧ list[k]? = some (doorD list (x, y)) := by
  obtain ⟨⟨hreg, hok⟩, _⟩ : (regOk rs = true ∧ cellOk x y = true) ∧ regHas rs x y = true := by simpa using h2
  have hb : (regSet rs).testBit (idxN (x, y)) = true := by rw [← HasCell_bit hreg hok]; exact h2
  rw [isTiling_cov, Bool.and_eq_true, beq_iff_eq] at h1
  rw [← h1.2] at hb
  have hn := domAt_neg (c := (x, y)) hok list 0 (Int.le_refl _)
  have hge : 0 ≤ domAt list (x, y) 0 := by
    rcases Int.lt_or_le (domAt list (x, y) 0) 0 with h | h
    · rw [hn.1 h] at hb; cases hb
    · exact h
  obtain ⟨j, h3, h4⟩ := domAt_found list (x, y) 0 (Int.le_refl _) hge
  refine ⟨j, by rw [h3]; simp, ?_⟩
  unfold doorD dAt
  rw [h3]
  simp [List.getElem?_eq_getElem h4]
theorem any_take_next {out : List Dm} {i : Nat} {e : Dm} (h : out[i]? = some e) (p : Dm → Bool) : (out.take (i + 1)).any p = ((out.take i).any p || p e) := by
  rw [take_snoc_at h, List.any_append]; simp
theorem hasDomino_N (A : Option Addr) (N c : Nat) (l : List Dm) (x y : Int) (z : Bool) (w : World) (hN : N = l.length) (hl : N ≤ 1048576) (hr : RdD w A l) (b : Bool) (hb : decide ((x, y, z) ∈ l) = b) :
    Calls Try.prog 91 #[.slice A N c, .agg #[.int .i64 x, .int .i64 y, .bool z]] w fun e w' => e = .returned (.bool b) ∧ Below w.heap.size w w' := by
  subst hN; subst hb; exact hasDomino_any A c l x y z w hl hr
theorem l11Has_N (A : Option Addr) (N c : Nat) (l : List Dm) (x y : Int) (z : Bool) (w : World) (hN : N = l.length) (hl : N ≤ 1048576) (hr : RdD w A l) :
    Calls Try.prog 90 #[.slice A N c, .agg #[.int .i64 x, .int .i64 y, .bool z]] w fun e w' => e = .returned (.int .i64 (findD l (x, y, z) 0)) ∧ Below w.heap.size w w' := by
  subst hN; exact l11Has_any A c l x y z w hl hr
end Go.Proofs.Ytoehmocamaamcaa

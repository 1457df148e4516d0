/-
  A segment of a block written at once, and the law on copy for elements of more than one cell; no statement is proved here; no condition.
-/
import Derived.Test.YtdcjhfmkkcakhaaOwn
import Derived.Laws.IdiomCopy
namespace Go.Proofs.Ytdcjhfmkkcakhaa
open Go.ChangeShapes Go.WideShapes Go.ChangeAt Go.RowKit Go.Deep
set_option linter.unusedVariables false

def setSeg (xs : List Value) : Nat → List Value → List Value
  | _, [] => xs
  | o, c :: cs => setSeg (xs.set o c) (o + 1) cs
theorem Blk.seg {g : Nat} {E : TypeId} (cs : List Value) : ∀ {w : World} {xs : List Value} (o : Nat), Blk w g E xs → Blk (w.setCells g o cs) g E (setSeg xs o cs) := by
  induction cs with
  | nil => intro w xs o h; exact h
  | cons c cs ih => intro w xs o h; exact ih (o + 1) (h.set_ o c)
theorem setCells_far {g : Nat} (cs : List Value) : ∀ (w : World) (o k : Nat), k ≠ g → (w.setCells g o cs).heap[k]? = w.heap[k]? := by
  induction cs with
  | nil => intro w o k _; rfl
  | cons c cs ih => intro w o k h; exact (ih _ _ _ h).trans (Below.heap_setCell w ⟨g, o, none⟩ c k h)
theorem setCells_same {g : Nat} (cs : List Value) : ∀ (w : World) (o : Nat), (w.setCells g o cs).os = w.os ∧ (w.setCells g o cs).tape = w.tape ∧ (w.setCells g o cs).output = w.output ∧ (w.setCells g o cs).heap.size = w.heap.size := by
  induction cs with
  | nil => intro w o; exact ⟨rfl, rfl, rfl, rfl⟩
  | cons c cs ih =>
    intro w o
    have := ih (w.setCell ⟨g, o, none⟩ c) (o + 1)
    exact ⟨this.1, this.2.1, this.2.2.1, this.2.2.2.trans (by simp)⟩
theorem bl_setCells {B : Nat} {w0 w : World} {g : Nat} (h : Below B w0 w) (hg : B ≤ g) (o : Nat) (cs : List Value) : Below B w0 (w.setCells g o cs) := by
  have hs := setCells_same (g := g) cs w o
  exact ⟨hs.1.trans h.os, hs.2.1.trans h.tape, hs.2.2.1.trans h.output, by rw [hs.2.2.2]; exact h.size, fun k hk => (setCells_far cs w o k (by omega)).trans (h.block k hk)⟩

theorem run_copy_sz {P : Program} (w : World) (dT sT ty elem : TypeId) (sz : Nat) (b o dLen dCap : Nat) (a : Addr) (sLen sCap : Nat) (cs : List Value)
    (hu : P.underlying dT = some (.slice elem)) (hs : (P.info? elem).map (·.size) = some sz) (hn : cs.length = Nat.min sLen dLen * sz)
    (hsrc : ∀ j v, cs[j]? = some v → w.cell? (a.add j) = some v) (hc : ∀ j, j < cs.length → (w.cell? ⟨b, o + j, none⟩).isSome = true) (hf : ∀ j, j < cs.length → w.frozen? ⟨b, o + j, none⟩ = false) (h1 : ∀ v ∈ cs, v.oneCell' = true) :
    (Builtin.copy_ #[dT, sT] ty #[.slice (some ⟨b, o, none⟩) dLen dCap, .slice (some a) sLen sCap]).run P w = .ok (goInt (Nat.min sLen dLen)) (w.setCells b o cs) := by
  have hl := run_loadCells_list (P := P) w a cs hsrc
  have hst := run_storeCells_cells (P := P) b o cs 0 w (by simpa using hc) (by simpa using hf) h1
  cases hq : P.info? elem with
  | none => simp [hq] at hs
  | some i =>
    have hi : i.size = sz := by simpa [hq] using hs
    simp [Builtin.copy_, run_underlying hu, Builtin.lenOf, Builtin.firstCells, sizeOf, typeInfo, hq, hi, ← hn, hl, hst]
theorem run_copy_zero {P : Program} (w : World) (dT sT ty elem : TypeId) (sz : Nat) (d a : Option Addr) (dLen dCap sLen sCap : Nat) (hu : P.underlying dT = some (.slice elem)) (hs : (P.info? elem).map (·.size) = some sz) (hn : Nat.min sLen dLen = 0) :
    (Builtin.copy_ #[dT, sT] ty #[.slice d dLen dCap, .slice a sLen sCap]).run P w = .ok (goInt 0) w := by
  cases hq : P.info? elem with
  | none => simp [hq] at hs
  | some i =>
    have hl : ∀ (x : Addr), (loadCells x 0).run P w = .ok #[] w := fun x => by simpa using run_loadCells_list (P := P) w x [] (by simp)
    cases d <;> cases a <;> simp [Builtin.copy_, run_underlying hu, Builtin.lenOf, Builtin.firstCells, sizeOf, typeInfo, hq, hn, storeCells, hl]
theorem wp_copy_ {P : Program} {w w' : World} {o : Oper} {a : Act} {K : Act → World → Prop} {Q : Exit → Act → World → Prop} (s x : Operand) (t : TypeId) {v : Value}
    (ho : o.op = .call { callee := .builtin .copy, args := #[s, x], argTypes := #[t, t] }) {vs vx : Value} (hs : a.eval s = vs) (hx : a.eval x = vx)
    (hrun : (Builtin.copy_ #[t, t] o.type #[vs, vx]).run P w = .ok v w') (h : K (a.put o.dst v) w') : o.wp P a w K Q := by
  unfold Oper.wp execOp
  simp only [ho, resolve, invoke, builtin, Sem.run_bind, Sem.run_pure, Result.andThen_ok, List.map_toArray, List.map_cons, List.map_nil, hs, hx, hrun]
  exact h
theorem wpList_copy_ {P : Program} {w w' : World} {ops : Array Oper} {rest : List Oper} {o : Oper} {a : Act} {Q : Exit → Act → World → Prop} (hgd : o.guard = none) (s x : Operand) (t : TypeId) {v : Value}
    (ho : o.op = .call { callee := .builtin .copy, args := #[s, x], argTypes := #[t, t] }) {vs vx : Value} (hs : a.eval s = vs) (hx : a.eval x = vx)
    (hrun : (Builtin.copy_ #[t, t] o.type #[vs, vx]).run P w = .ok v w') (h : wpList P ops Q rest (a.put o.dst v) w') : wpList P ops Q (o :: rest) a w :=
  wpList_plain hgd fun _ hK => wp_copy_ s x t ho hs hx hrun (hK _ _ h)
theorem step_copy_ {P : Program} {w w' : World} {ops : Array Oper} {o : Oper} {a : Act} {K : Act → World → Prop} {Q : Exit → Act → World → Prop} {E : Prop} (hgd : o.guard = none) (s x : Operand) (t : TypeId) {v : Value}
    (ho : o.op = .call { callee := .builtin .copy, args := #[s, x], argTypes := #[t, t] }) {vs vx : Value} (hs : a.eval s = vs) (hx : a.eval x = vx)
    (hrun : (Builtin.copy_ #[t, t] o.type #[vs, vx]).run P w = .ok v w') (h : K (a.put o.dst v) w') :
    if Region.wanted o (yielded ops a.tmps) = true then Oper.wp P o a w K Q else E := by
  have hw : Region.wanted o (yielded ops a.tmps) = true := by simp [Region.wanted, hgd]
  rw [if_pos hw]
  exact wp_copy_ s x t ho hs hx hrun h
theorem setSeg_eq (cs : List Value) : ∀ (xs : List Value) (o : Nat), o + cs.length ≤ xs.length → setSeg xs o cs = xs.take o ++ cs ++ xs.drop (o + cs.length) := by
  induction cs with
  | nil => intro xs o _; simp [setSeg]
  | cons c cs ih =>
    intro xs o h
    rw [List.length_cons] at h
    rw [setSeg, ih _ _ (by rw [List.length_set]; omega)]
    have e : (xs.set o c).take (o + 1) = xs.take o ++ [c] := by
      have : (xs.set o c)[o]? = some c := by rw [List.getElem?_set, if_pos rfl, if_pos (by omega)]
      rw [take_snoc_at this, List.take_set_of_le (Nat.le_refl _)]
    rw [e, List.drop_set_of_lt (by omega), List.length_cons, show o + 1 + cs.length = o + (cs.length + 1) by omega]
    simp
section
variable {α : Type} (f : α → List Value) (m : Nat) (hf : ∀ a, (f a).length = m)
include hf
theorem flat_take (mem : List α) {i : Nat} (hi : i ≤ mem.length) (rest : List Value) : (mem.flatMap f ++ rest).take (i * m) = (mem.take i).flatMap f := by
  have e : mem.flatMap f = (mem.take i).flatMap f ++ (mem.drop i).flatMap f := by rw [← List.flatMap_append, List.take_append_drop]
  have hl : ((mem.take i).flatMap f).length = i * m := by rw [flatMap_len f m hf, List.length_take, Nat.min_eq_left hi]
  rw [e, List.append_assoc, ← hl, List.take_left]
theorem flat_drop (mem : List α) {i : Nat} (hi : i ≤ mem.length) (rest : List Value) : (mem.flatMap f ++ rest).drop (i * m) = (mem.drop i).flatMap f ++ rest := by
  have e : mem.flatMap f = (mem.take i).flatMap f ++ (mem.drop i).flatMap f := by rw [← List.flatMap_append, List.take_append_drop]
  have hl : ((mem.take i).flatMap f).length = i * m := by rw [flatMap_len f m hf, List.length_take, Nat.min_eq_left hi]
  rw [e, List.append_assoc, ← hl, List.drop_left]
theorem Blk.segF {w : World} {g : Nat} {E : TypeId} {mem : List α} {rest : List Value} (h : Blk w g E (mem.flatMap f ++ rest)) (i : Nat) (ds : List α) (hi : i + ds.length ≤ mem.length) :
    Blk (w.setCells g (i * m) (ds.flatMap f)) g E ((mem.take i ++ ds ++ mem.drop (i + ds.length)).flatMap f ++ rest) := by
  have := h.seg (ds.flatMap f) (i * m)
  have hl := flatMap_len f m hf
  rw [setSeg_eq _ _ _ (by rw [List.length_append, hl, hl, ← Nat.add_mul]; exact Nat.le_trans (Nat.mul_le_mul_right m hi) (Nat.le_add_right _ _)), hl, ← Nat.add_mul, flat_take f m hf mem (by omega), flat_drop f m hf mem hi] at this
  rw [List.flatMap_append, List.flatMap_append, List.append_assoc]
  exact this
theorem Blk.setF {w : World} {g : Nat} {E : TypeId} {mem : List α} {rest : List Value} (h : Blk w g E (mem.flatMap f ++ rest)) {i : Nat} (hi : i < mem.length) (a : α) :
    Blk (w.setCells g (i * m) (f a)) g E ((mem.set i a).flatMap f ++ rest) := by
  have := h.segF f m hf i [a] (by rw [List.length_singleton]; omega)
  rw [List.flatMap_cons, List.flatMap_nil, List.append_nil] at this
  rw [List.set_eq_take_append_cons_drop, if_pos hi]
  simpa using this
theorem Blk.atF {w : World} {g : Nat} {E : TypeId} {mem : List α} {rest : List Value} (h : Blk w g E (mem.flatMap f ++ rest)) {i : Nat} {a : α} (ha : mem[i]? = some a) {j : Nat} (hj : j < m) : w.cell? ⟨g, i * m + j, none⟩ = (f a)[j]? := by
  have hi := (List.getElem?_eq_some_iff.1 ha).1
  have hl := flatMap_len f m hf mem
  have : (i + 1) * m ≤ mem.length * m := Nat.mul_le_mul_right m hi
  rw [Nat.add_mul, Nat.one_mul] at this
  rw [h.cell, List.getElem?_append_left (by omega)]
  exact flatMap_get f m hf mem i j a ha hj
end
theorem shift_seg {α : Type} (out : List α) (z : α) {k : Nat} (hk : k < out.length) : (out ++ [z]).take (k + 1) ++ out.drop k ++ (out ++ [z]).drop (k + 1 + (out.drop k).length) = out.take (k + 1) ++ out.drop k := by
  have h1 : (out ++ [z]).drop (k + 1 + (out.drop k).length) = [] := List.drop_eq_nil_of_le (by rw [List.length_append, List.length_drop, List.length_singleton]; omega)
  rw [h1, List.append_nil, List.take_append_of_le_length (by omega)]
theorem shift_set' {α : Type} (out : List α) (c : α) {k : Nat} (hk : k < out.length) : (out.take (k + 1) ++ out.drop k).set k c = out.take k ++ c :: out.drop k := by
  have e : out.take (k + 1) = out.take k ++ [out[k]] := List.take_succ_eq_append_getElem hk
  rw [e, List.append_assoc, List.set_append_right _ _ (by rw [List.length_take]; omega), List.length_take, show k - min k out.length = 0 by omega]
  rfl
theorem snoc_set' {α : Type} (out : List α) (z c : α) : (out ++ [z]).set out.length c = out.take out.length ++ c :: out.drop out.length := by
  rw [List.set_append_right _ _ (Nat.le_refl _), Nat.sub_self, List.take_length, List.drop_length]; rfl
end Go.Proofs.Ytdcjhfmkkcakhaa

/-
  Words for memory that all walks of this seat use: a slice that reads as a list (of integers, of pairs, of triples), kept over calls that only add memory; no statement is proved here; no condition.
-/
import Derived.Test.YtdbnhbffdndkgaaRows
import Derived.WalkKit
import Derived.ProofKit
import Derived.OpenShut
import Derived.WalkSpells
import Derived.WalkLawsBesides
import Derived.Outline
import Derived.Handy
import Derived.Deep.QuietTactic
import Derived.BigQuiet
import Derived.Lib.Hide
import Derived.Deep.Slices
import Derived.Deep.Fields
import Derived.Deep.Matrix
import Derived.ChangeSame
namespace Go.Proofs.Ytdbnhbffdndkgaa
open Go.ChangeShapes Go.WideShapes Go.ChangeAt Go.RowKit Go.Deep

def I64 (x : Int) : Prop := -9223372036854775808 ≤ x ∧ x ≤ 9223372036854775807

theorem I64.of_wf {x : Int} (h : (Lit.int .i64 x).wf = true) : I64 x := by
  simp [Lit.wf, IntKind.min, IntKind.max, IntKind.bits, IntKind.signed] at h
  exact h

theorem bcell {W w1 : World} (hb : Below W.heap.size W w1) :
    (∀ b o, b < W.heap.size → w1.cell? ⟨b, o, none⟩ = W.cell? ⟨b, o, none⟩) ∧ (∀ b o, b < W.heap.size → w1.frozen? ⟨b, o, none⟩ = W.frozen? ⟨b, o, none⟩) :=
  ⟨fun b o h => hb.cell (p := ⟨b, o, none⟩) h, fun b o h => hb.frozen (p := ⟨b, o, none⟩) h⟩

/-! ### 'Below', step by step, from the world at the call's beginning -/
theorem bl_alloc {w X : World} (h : Below w.heap.size w X) (o : Obj) : Below w.heap.size w (X.alloc o) := h.alloc h.size o
theorem bl_drew {w X : World} (h : Below w.heap.size w X) : Below w.heap.size w X.drew := h.drew
theorem bl_drewN {w X : World} (h : Below w.heap.size w X) (n : Nat) : Below w.heap.size w (X.drewN n) := ⟨h.os, h.tape, h.output, h.size, h.block⟩
theorem bl_set {w X : World} (h : Below w.heap.size w X) {p : Addr} (hp : w.heap.size ≤ p.block) (u : Value) : Below w.heap.size w (X.setCell p u) := h.setCell hp u
theorem bl_trans {w X w1 : World} (h : Below w.heap.size w X) (h1 : Below X.heap.size X w1) : Below w.heap.size w w1 := h.trans (h1.mono h.size)
theorem bl_grown {w X w1 : World} {v : Value} (h : Below w.heap.size w X) (h1 : X.grownBy w1 v.ownBlock) (hv : ∀ k, v.ownBlock = some k → w.heap.size ≤ k) : Below w.heap.size w w1 := h.grown h1 h.size hv

/-! ### a slice that reads as a list of cells -/
def Rd (w : World) (sz : Nat) (A : Option Addr) (n : Nat) (xs : List Value) : Prop :=
  xs.length = n * sz ∧ (0 < n → ∃ b off, A = some ⟨b, off, none⟩ ∧ b < w.heap.size ∧ ∀ j u, xs[j]? = some u → w.cell? ⟨b, off + j, none⟩ = some u)

section
variable {w w' : World} {sz n : Nat} {A : Option Addr} {xs : List Value}
theorem Rd.none_ : Rd w sz A 0 [] := ⟨by simp, fun h => absurd h (by omega)⟩
theorem Rd.below (h : Rd w sz A n xs) (hb : Below w.heap.size w w') : Rd w' sz A n xs :=
  ⟨h.1, fun hn => by
    obtain ⟨b, off, e, hlt, hc⟩ := h.2 hn
    exact ⟨b, off, e, Nat.lt_of_lt_of_le hlt hb.size, fun j u hu => (hb.cell (p := ⟨b, off + j, none⟩) hlt).trans (hc j u hu)⟩⟩
theorem Rd.alloc (h : Rd w sz A n xs) (o : Obj) : Rd (w.alloc o) sz A n xs := h.below ((Below.refl _ _).alloc (Nat.le_refl _) o)
theorem Rd.drew (h : Rd w sz A n xs) : Rd w.drew sz A n xs := h
theorem Rd.drewN (h : Rd w sz A n xs) (k : Nat) : Rd (w.drewN k) sz A n xs := h
theorem Rd.cut (h : Rd w sz A n xs) {k cap : Nat} (hk : k ≤ n) (hc : n ≤ cap) :
    Rd w sz (if cap = k then A else A.map (·.add (k * sz))) (n - k) (xs.drop (k * sz)) := by
  refine ⟨by rw [List.length_drop, h.1, Nat.sub_mul], fun hn => ?_⟩
  obtain ⟨b, off, rfl, hlt, hcell⟩ := h.2 (by omega)
  rw [if_neg (by omega)]
  refine ⟨b, off + k * sz, by simp only [Option.map, Addr.add]; split <;> simp_all, hlt, fun j u hu => ?_⟩
  rw [List.getElem?_drop] at hu
  rw [Nat.add_assoc]
  exact hcell _ u hu
theorem Rd.take (h : Rd w sz A n xs) {k : Nat} (hk : k ≤ n) : Rd w sz A k (xs.take (k * sz)) := by
  refine ⟨by rw [List.length_take, h.1]; exact Nat.min_eq_left (Nat.mul_le_mul_right _ hk), fun hn => ?_⟩
  obtain ⟨b, off, rfl, hlt, hcell⟩ := h.2 (by omega)
  refine ⟨b, off, rfl, hlt, fun j u hu => ?_⟩
  rw [List.getElem?_take] at hu
  split at hu
  · exact hcell _ u hu
  · cases hu
theorem Rd.of_own {base : Nat} {e : TypeId} {c : Nat} (h : w.ownsRow base e sz (.slice A n c) n xs) : Rd w sz A n xs := by
  refine ⟨h.1, fun hn => ?_⟩
  rcases h.2 with ⟨_, h0⟩ | ⟨g, cap, cur, hv, _, hg, _⟩
  · omega
  · have hA : A = some ⟨g, 0, none⟩ := by injection hv
    subst hA
    refine ⟨g, 0, rfl, (Array.getElem?_eq_some_iff.1 hg).1, fun j u hu => ?_⟩
    have := h.cells (g := g) rfl j u hu
    rwa [Addr.add_lit] at this
end

theorem flatMap_get {α β : Type} (f : α → List β) (m : Nat) (hf : ∀ a, (f a).length = m) (l : List α) : ∀ (k j : Nat) (a : α), l[k]? = some a → j < m → (l.flatMap f)[k * m + j]? = (f a)[j]? := by
  induction l with
  | nil => intro k j a h; simp at h
  | cons x l ih =>
    intro k j a h hj
    cases k with
    | zero => simp at h; subst h; simp [List.getElem?_append, hf, hj]
    | succ k =>
      simp at h
      have := ih k j a h hj
      rw [List.flatMap_cons, List.getElem?_append_right (by rw [hf, Nat.succ_mul]; omega), hf, ← this]
      congr 1
      rw [Nat.succ_mul]; omega

theorem drop_at {α : Type} {l : List α} {k : Nat} {x : α} (h : l[k]? = some x) : l.drop k = x :: l.drop (k + 1) := by
  obtain ⟨hk, rfl⟩ := List.getElem?_eq_some_iff.1 h
  exact List.drop_eq_getElem_cons hk

def cI (x : Int) : Value := .int .i64 x
def cC (c : Int × Int) : List Value := [.int .i64 c.1, .int .i64 c.2]
def cD (d : Int × Int × Bool) : List Value := [.int .i64 d.1, .int .i64 d.2.1, .bool d.2.2]
def cT (d : Int × Int × Int) : List Value := [.int .i64 d.1, .int .i64 d.2.1, .int .i64 d.2.2]

def RdI (w : World) (A : Option Addr) (l : List Int) : Prop := Rd w 1 A l.length (l.map cI) ∧ ∀ x ∈ l, I64 x
def RdC (w : World) (A : Option Addr) (l : List (Int × Int)) : Prop := Rd w 2 A l.length (l.flatMap cC) ∧ ∀ x ∈ l, I64 x.1 ∧ I64 x.2
def RdD (w : World) (A : Option Addr) (l : List (Int × Int × Bool)) : Prop := Rd w 3 A l.length (l.flatMap cD) ∧ ∀ x ∈ l, I64 x.1 ∧ I64 x.2.1
def RdT (w : World) (A : Option Addr) (l : List (Int × Int × Int)) : Prop := Rd w 3 A l.length (l.flatMap cT) ∧ ∀ x ∈ l, I64 x.1 ∧ I64 x.2.1 ∧ I64 x.2.2

section
variable {w w' : World} {A : Option Addr}
theorem RdI.below {l : List Int} (h : RdI w A l) (hb : Below w.heap.size w w') : RdI w' A l := ⟨h.1.below hb, h.2⟩
theorem RdC.below {l : List (Int × Int)} (h : RdC w A l) (hb : Below w.heap.size w w') : RdC w' A l := ⟨h.1.below hb, h.2⟩
theorem RdD.below {l : List (Int × Int × Bool)} (h : RdD w A l) (hb : Below w.heap.size w w') : RdD w' A l := ⟨h.1.below hb, h.2⟩
theorem RdT.below {l : List (Int × Int × Int)} (h : RdT w A l) (hb : Below w.heap.size w w') : RdT w' A l := ⟨h.1.below hb, h.2⟩

theorem RdI.at_ {l : List Int} (h : RdI w A l) {k : Nat} (hk : k < l.length) :
    ∃ b off x, A = some ⟨b, off, none⟩ ∧ b < w.heap.size ∧ l[k]? = some x ∧ l.drop k = x :: l.drop (k + 1) ∧ I64 x ∧ w.cell? ⟨b, off + k, none⟩ = some (.int .i64 x) := by
  obtain ⟨b, off, e, hlt, hc⟩ := h.1.2 (by omega)
  have hx : l[k]? = some l[k] := List.getElem?_eq_getElem hk
  refine ⟨b, off, l[k], e, hlt, hx, drop_at hx, h.2 _ (List.getElem_mem hk), hc k _ ?_⟩
  simp [hx, cI]
theorem RdC.at_ {l : List (Int × Int)} (h : RdC w A l) {k : Nat} (hk : k < l.length) :
    ∃ b off x y, A = some ⟨b, off, none⟩ ∧ b < w.heap.size ∧ l[k]? = some (x, y) ∧ l.drop k = (x, y) :: l.drop (k + 1) ∧ I64 x ∧ I64 y ∧ w.cell? ⟨b, off + k * 2, none⟩ = some (.int .i64 x) ∧ w.cell? ⟨b, off + k * 2 + 1, none⟩ = some (.int .i64 y) := by
  obtain ⟨b, off, e, hlt, hc⟩ := h.1.2 (by omega)
  have hx : l[k]? = some l[k] := List.getElem?_eq_getElem hk
  have hm := h.2 _ (List.getElem_mem hk)
  have hg := flatMap_get cC 2 (fun _ => rfl) l k
  refine ⟨b, off, l[k].1, l[k].2, e, hlt, hx, drop_at hx, hm.1, hm.2, ?_, ?_⟩
  · have := hc (k * 2 + 0) _ (hg 0 _ hx (by omega)); simpa using this
  · have := hc (k * 2 + 1) _ (hg 1 _ hx (by omega)); simpa [Nat.add_assoc] using this
theorem RdD.at_ {l : List (Int × Int × Bool)} (h : RdD w A l) {k : Nat} (hk : k < l.length) :
    ∃ b off x y z, A = some ⟨b, off, none⟩ ∧ b < w.heap.size ∧ l[k]? = some (x, y, z) ∧ l.drop k = (x, y, z) :: l.drop (k + 1) ∧ I64 x ∧ I64 y ∧
      w.cell? ⟨b, off + k * 3, none⟩ = some (.int .i64 x) ∧ w.cell? ⟨b, off + k * 3 + 1, none⟩ = some (.int .i64 y) ∧ w.cell? ⟨b, off + k * 3 + 2, none⟩ = some (.bool z) := by
  obtain ⟨b, off, e, hlt, hc⟩ := h.1.2 (by omega)
  have hx : l[k]? = some l[k] := List.getElem?_eq_getElem hk
  have hm := h.2 _ (List.getElem_mem hk)
  have hg := flatMap_get cD 3 (fun _ => rfl) l k
  refine ⟨b, off, l[k].1, l[k].2.1, l[k].2.2, e, hlt, hx, drop_at hx, hm.1, hm.2, ?_, ?_, ?_⟩
  · have := hc (k * 3 + 0) _ (hg 0 _ hx (by omega)); simpa using this
  · have := hc (k * 3 + 1) _ (hg 1 _ hx (by omega)); simpa [Nat.add_assoc] using this
  · have := hc (k * 3 + 2) _ (hg 2 _ hx (by omega)); simpa [Nat.add_assoc] using this
theorem RdT.at_ {l : List (Int × Int × Int)} (h : RdT w A l) {k : Nat} (hk : k < l.length) :
    ∃ b off x y z, A = some ⟨b, off, none⟩ ∧ b < w.heap.size ∧ l[k]? = some (x, y, z) ∧ l.drop k = (x, y, z) :: l.drop (k + 1) ∧ I64 x ∧ I64 y ∧ I64 z ∧
      w.cell? ⟨b, off + k * 3, none⟩ = some (.int .i64 x) ∧ w.cell? ⟨b, off + k * 3 + 1, none⟩ = some (.int .i64 y) ∧ w.cell? ⟨b, off + k * 3 + 2, none⟩ = some (.int .i64 z) := by
  obtain ⟨b, off, e, hlt, hc⟩ := h.1.2 (by omega)
  have hx : l[k]? = some l[k] := List.getElem?_eq_getElem hk
  have hm := h.2 _ (List.getElem_mem hk)
  have hg := flatMap_get cT 3 (fun _ => rfl) l k
  refine ⟨b, off, l[k].1, l[k].2.1, l[k].2.2, e, hlt, hx, drop_at hx, hm.1, hm.2.1, hm.2.2, ?_, ?_, ?_⟩
  · have := hc (k * 3 + 0) _ (hg 0 _ hx (by omega)); simpa using this
  · have := hc (k * 3 + 1) _ (hg 1 _ hx (by omega)); simpa [Nat.add_assoc] using this
  · have := hc (k * 3 + 2) _ (hg 2 _ hx (by omega)); simpa [Nat.add_assoc] using this
end
end Go.Proofs.Ytdbnhbffdndkgaa

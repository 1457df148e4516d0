/-
  Words for memory that all walks of this seat use: a slice that reads as a list (of integers, of pairs, of triples), kept over calls that only add memory; no statement is proved here; no condition.
-/
import Derived.Test.YtdcjhfmkkcakhaaRows
import Derived.WalkKit
import Derived.ProofKit
import Derived.OpenShut
import Derived.WalkSpells
import Derived.WalkLawsBesides
import Derived.Outline
import Derived.Handy
import Derived.Deep.QuietTactic
import Derived.BigQuiet
import Derived.BigRegion
import Derived.Lib.Hide
import Derived.Deep.Slices
import Derived.Deep.Fields
import Derived.Deep.Matrix
import Derived.ChangeSame
import Derived.Deep.OwnRows
import Derived.Deep.RegionHeld3
import Derived.Deep.RegionWith
namespace Go.Proofs.Ytdcjhfmkkcakhaa
open Go.ChangeShapes Go.WideShapes Go.ChangeAt Go.RowKit Go.Deep
set_option linter.unusedVariables false

def I64 (x : Int) : Prop := -9223372036854775808 ≤ x ∧ x ≤ 9223372036854775807

theorem I64.of_wf {x : Int} (h : (Lit.int .i64 x).wf = true) : I64 x := by
  simp [Lit.wf, IntKind.min, IntKind.max, IntKind.bits, IntKind.signed] at h
  exact h

theorem ret_int {k : IntKind} {a b : Int} (h : a = b) : Ending.returned (.int k a) = .returned (.int k b) := by rw [h]
theorem ret_bool {a b : Bool} (h : a = b) : Ending.returned (.bool a) = .returned (.bool b) := by rw [h]

theorem bcell {W w1 : World} (hb : Below W.heap.size W w1) :
    (∀ b o, b < W.heap.size → w1.cell? ⟨b, o, none⟩ = W.cell? ⟨b, o, none⟩) ∧ (∀ b o, b < W.heap.size → w1.frozen? ⟨b, o, none⟩ = W.frozen? ⟨b, o, none⟩) :=
  ⟨fun b o h => hb.cell (p := ⟨b, o, none⟩) h, fun b o h => hb.frozen (p := ⟨b, o, none⟩) h⟩

/-! ### 'Below', step by step, from the world at the call's beginning -/
theorem bl_alloc {w X : World} (h : Below w.heap.size w X) (o : Obj) : Below w.heap.size w (X.alloc o) := h.alloc h.size o
theorem bl_drew {w X : World} (h : Below w.heap.size w X) : Below w.heap.size w X.drew := h.drew
theorem bl_drewN {w X : World} (h : Below w.heap.size w X) (n : Nat) : Below w.heap.size w (X.drewN n) := ⟨h.os, h.tape, h.output, h.size, h.block⟩
theorem bl_set {w X : World} (h : Below w.heap.size w X) {p : Addr} (hp : w.heap.size ≤ p.block) (u : Value) : Below w.heap.size w (X.setCell p u) := h.setCell hp u
theorem bl_trans {w X w1 : World} (h : Below w.heap.size w X) (h1 : Below X.heap.size X w1) : Below w.heap.size w w1 := h.trans (h1.mono h.size)
theorem bl_sz {w X w1 : World} (h : Below w.heap.size w X) (_ : Below X.heap.size X w1) : w.heap.size ≤ X.heap.size := h.size
theorem bl_grown {w X w1 : World} {v : Value} (h : Below w.heap.size w X) (h1 : X.grownBy w1 v.ownBlock) (hv : ∀ k, v.ownBlock = some k → w.heap.size ≤ k) : Below w.heap.size w w1 := h.grown h1 h.size hv

/-! ### a slice that reads as a list of cells -/
def Rd (w : World) (sz : Nat) (A : Option Addr) (n : Nat) (xs : List Value) : Prop :=
  xs.length = n * sz ∧ (0 < n → ∃ b off, A = some ⟨b, off, none⟩ ∧ b < w.heap.size ∧ ∀ j u, xs[j]? = some u → w.cell? ⟨b, off + j, none⟩ = some u)

section
variable {w w' : World} {sz n : Nat} {A : Option Addr} {xs : List Value}
theorem Rd.none_ : Rd w sz A 0 [] := ⟨by simp, fun h => absurd h (by omega)⟩
theorem Rd.below (h : Rd w sz A n xs) (hb : Below w.heap.size w w') : Rd w' sz A n xs :=
  ⟨h.1, fun hn => by
    obtain ⟨b, off, e, hlt, hc⟩ := h.2 hn
    exact ⟨b, off, e, Nat.lt_of_lt_of_le hlt hb.size, fun j u hu => (hb.cell (p := ⟨b, off + j, none⟩) hlt).trans (hc j u hu)⟩⟩
theorem Rd.alloc (h : Rd w sz A n xs) (o : Obj) : Rd (w.alloc o) sz A n xs := h.below ((Below.refl _ _).alloc (Nat.le_refl _) o)
theorem Rd.drew (h : Rd w sz A n xs) : Rd w.drew sz A n xs := h
theorem Rd.drewN (h : Rd w sz A n xs) (k : Nat) : Rd (w.drewN k) sz A n xs := h
theorem Rd.cut (h : Rd w sz A n xs) {k cap : Nat} (hk : k ≤ n) (hc : n ≤ cap) :
    Rd w sz (if cap = k then A else A.map (·.add (k * sz))) (n - k) (xs.drop (k * sz)) := by
  refine ⟨by rw [List.length_drop, h.1, Nat.sub_mul], fun hn => ?_⟩
  obtain ⟨b, off, rfl, hlt, hcell⟩ := h.2 (by omega)
  rw [if_neg (by omega)]
  refine ⟨b, off + k * sz, by simp only [Option.map, Addr.add]; split <;> simp_all, hlt, fun j u hu => ?_⟩
  rw [List.getElem?_drop] at hu
  rw [Nat.add_assoc]
  exact hcell _ u hu
theorem Rd.take (h : Rd w sz A n xs) {k : Nat} (hk : k ≤ n) : Rd w sz A k (xs.take (k * sz)) := by
  refine ⟨by rw [List.length_take, h.1]; exact Nat.min_eq_left (Nat.mul_le_mul_right _ hk), fun hn => ?_⟩
  obtain ⟨b, off, rfl, hlt, hcell⟩ := h.2 (by omega)
  refine ⟨b, off, rfl, hlt, fun j u hu => ?_⟩
  rw [List.getElem?_take] at hu
  split at hu
  · exact hcell _ u hu
  · cases hu
theorem Rd.of_own {base : Nat} {e : TypeId} {c : Nat} (h : w.ownsRow base e sz (.slice A n c) n xs) : Rd w sz A n xs := by
  refine ⟨h.1, fun hn => ?_⟩
  rcases h.2 with ⟨_, h0⟩ | ⟨g, cap, cur, hv, _, hg, _⟩
  · omega
  · have hA : A = some ⟨g, 0, none⟩ := by injection hv
    subst hA
    refine ⟨g, 0, rfl, (Array.getElem?_eq_some_iff.1 hg).1, fun j u hu => ?_⟩
    have := h.cells (g := g) rfl j u hu
    rwa [Addr.add_lit] at this
end

theorem flatMap_get {α β : Type} (f : α → List β) (m : Nat) (hf : ∀ a, (f a).length = m) (l : List α) : ∀ (k j : Nat) (a : α), l[k]? = some a → j < m → (l.flatMap f)[k * m + j]? = (f a)[j]? := by
  induction l with
  | nil => intro k j a h; simp at h
  | cons x l ih =>
    intro k j a h hj
    cases k with
    | zero => simp at h; subst h; simp [List.getElem?_append, hf, hj]
    | succ k =>
      simp at h
      have := ih k j a h hj
      rw [List.flatMap_cons, List.getElem?_append_right (by rw [hf, Nat.succ_mul]; omega), hf, ← this]
      congr 1
      rw [Nat.succ_mul]; omega

theorem flatMap_len {α β : Type} (f : α → List β) (m : Nat) (hf : ∀ a, (f a).length = m) (l : List α) : (l.flatMap f).length = l.length * m := by
  induction l with
  | nil => simp
  | cons x l ih => simp only [List.flatMap_cons, List.length_append, hf, ih, List.length_cons, Nat.succ_mul]; omega

theorem drop_at {α : Type} {l : List α} {k : Nat} {x : α} (h : l[k]? = some x) : l.drop k = x :: l.drop (k + 1) := by
  obtain ⟨hk, rfl⟩ := List.getElem?_eq_some_iff.1 h
  exact List.drop_eq_getElem_cons hk

theorem take_snoc_at {α : Type} {l : List α} {k : Nat} {x : α} (h : l[k]? = some x) : l.take (k + 1) = l.take k ++ [x] := by
  obtain ⟨hk, rfl⟩ := List.getElem?_eq_some_iff.1 h
  exact List.take_succ_eq_append_getElem hk
def cI (x : Int) : Value := .int .i64 x
def cC (c : Int × Int) : List Value := [.int .i64 c.1, .int .i64 c.2]
def cD (d : Int × Int × Bool) : List Value := [.int .i64 d.1, .int .i64 d.2.1, .bool d.2.2]
def cT (d : Int × Int × Int) : List Value := [.int .i64 d.1, .int .i64 d.2.1, .int .i64 d.2.2]

def RdI (w : World) (A : Option Addr) (l : List Int) : Prop := Rd w 1 A l.length (l.map cI) ∧ ∀ x ∈ l, I64 x
def RdC (w : World) (A : Option Addr) (l : List (Int × Int)) : Prop := Rd w 2 A l.length (l.flatMap cC) ∧ ∀ x ∈ l, I64 x.1 ∧ I64 x.2
def RdD (w : World) (A : Option Addr) (l : List (Int × Int × Bool)) : Prop := Rd w 3 A l.length (l.flatMap cD) ∧ ∀ x ∈ l, I64 x.1 ∧ I64 x.2.1
def RdT (w : World) (A : Option Addr) (l : List (Int × Int × Int)) : Prop := Rd w 3 A l.length (l.flatMap cT) ∧ ∀ x ∈ l, I64 x.1 ∧ I64 x.2.1 ∧ I64 x.2.2

section
variable {w w' : World} {A : Option Addr}
theorem RdI.below {l : List Int} (h : RdI w A l) (hb : Below w.heap.size w w') : RdI w' A l := ⟨h.1.below hb, h.2⟩
theorem RdC.below {l : List (Int × Int)} (h : RdC w A l) (hb : Below w.heap.size w w') : RdC w' A l := ⟨h.1.below hb, h.2⟩
theorem RdD.below {l : List (Int × Int × Bool)} (h : RdD w A l) (hb : Below w.heap.size w w') : RdD w' A l := ⟨h.1.below hb, h.2⟩
theorem RdT.below {l : List (Int × Int × Int)} (h : RdT w A l) (hb : Below w.heap.size w w') : RdT w' A l := ⟨h.1.below hb, h.2⟩

theorem RdI.at_ {l : List Int} (h : RdI w A l) {k : Nat} (hk : k < l.length) :
    ∃ b off x, A = some ⟨b, off, none⟩ ∧ b < w.heap.size ∧ l[k]? = some x ∧ l.drop k = x :: l.drop (k + 1) ∧ I64 x ∧ w.cell? ⟨b, off + k, none⟩ = some (.int .i64 x) := by
  obtain ⟨b, off, e, hlt, hc⟩ := h.1.2 (by omega)
  have hx : l[k]? = some l[k] := List.getElem?_eq_getElem hk
  refine ⟨b, off, l[k], e, hlt, hx, drop_at hx, h.2 _ (List.getElem_mem hk), hc k _ ?_⟩
  simp [hx, cI]
theorem RdC.at_ {l : List (Int × Int)} (h : RdC w A l) {k : Nat} (hk : k < l.length) :
    ∃ b off x y, A = some ⟨b, off, none⟩ ∧ b < w.heap.size ∧ l[k]? = some (x, y) ∧ l.drop k = (x, y) :: l.drop (k + 1) ∧ I64 x ∧ I64 y ∧ w.cell? ⟨b, off + k * 2, none⟩ = some (.int .i64 x) ∧ w.cell? ⟨b, off + k * 2 + 1, none⟩ = some (.int .i64 y) := by
  obtain ⟨b, off, e, hlt, hc⟩ := h.1.2 (by omega)
  have hx : l[k]? = some l[k] := List.getElem?_eq_getElem hk
  have hm := h.2 _ (List.getElem_mem hk)
  have hg := flatMap_get cC 2 (fun _ => rfl) l k
  refine ⟨b, off, l[k].1, l[k].2, e, hlt, hx, drop_at hx, hm.1, hm.2, ?_, ?_⟩
  · have := hc (k * 2 + 0) _ (hg 0 _ hx (by omega)); simpa using this
  · have := hc (k * 2 + 1) _ (hg 1 _ hx (by omega)); simpa [Nat.add_assoc] using this
theorem RdD.at_ {l : List (Int × Int × Bool)} (h : RdD w A l) {k : Nat} (hk : k < l.length) :
    ∃ b off x y z, A = some ⟨b, off, none⟩ ∧ b < w.heap.size ∧ l[k]? = some (x, y, z) ∧ l.drop k = (x, y, z) :: l.drop (k + 1) ∧ I64 x ∧ I64 y ∧
      w.cell? ⟨b, off + k * 3, none⟩ = some (.int .i64 x) ∧ w.cell? ⟨b, off + k * 3 + 1, none⟩ = some (.int .i64 y) ∧ w.cell? ⟨b, off + k * 3 + 2, none⟩ = some (.bool z) := by
  obtain ⟨b, off, e, hlt, hc⟩ := h.1.2 (by omega)
  have hx : l[k]? = some l[k] := List.getElem?_eq_getElem hk
  have hm := h.2 _ (List.getElem_mem hk)
  have hg := flatMap_get cD 3 (fun _ => rfl) l k
  refine ⟨b, off, l[k].1, l[k].2.1, l[k].2.2, e, hlt, hx, drop_at hx, hm.1, hm.2, ?_, ?_, ?_⟩
  · have := hc (k * 3 + 0) _ (hg 0 _ hx (by omega)); simpa using this
  · have := hc (k * 3 + 1) _ (hg 1 _ hx (by omega)); simpa [Nat.add_assoc] using this
  · have := hc (k * 3 + 2) _ (hg 2 _ hx (by omega)); simpa [Nat.add_assoc] using this
theorem RdT.at_ {l : List (Int × Int × Int)} (h : RdT w A l) {k : Nat} (hk : k < l.length) :
    ∃ b off x y z, A = some ⟨b, off, none⟩ ∧ b < w.heap.size ∧ l[k]? = some (x, y, z) ∧ l.drop k = (x, y, z) :: l.drop (k + 1) ∧ I64 x ∧ I64 y ∧ I64 z ∧
      w.cell? ⟨b, off + k * 3, none⟩ = some (.int .i64 x) ∧ w.cell? ⟨b, off + k * 3 + 1, none⟩ = some (.int .i64 y) ∧ w.cell? ⟨b, off + k * 3 + 2, none⟩ = some (.int .i64 z) := by
  obtain ⟨b, off, e, hlt, hc⟩ := h.1.2 (by omega)
  have hx : l[k]? = some l[k] := List.getElem?_eq_getElem hk
  have hm := h.2 _ (List.getElem_mem hk)
  have hg := flatMap_get cT 3 (fun _ => rfl) l k
  refine ⟨b, off, l[k].1, l[k].2.1, l[k].2.2, e, hlt, hx, drop_at hx, hm.1, hm.2.1, hm.2.2, ?_, ?_, ?_⟩
  · have := hc (k * 3 + 0) _ (hg 0 _ hx (by omega)); simpa using this
  · have := hc (k * 3 + 1) _ (hg 1 _ hx (by omega)); simpa [Nat.add_assoc] using this
  · have := hc (k * 3 + 2) _ (hg 2 _ hx (by omega)); simpa [Nat.add_assoc] using this
end

/-! ### a region that draws its order, whose operations only read and whose callees only add memory: walked once -/
structure BelowOf (w : World) where
  at_ : World
  bel : Below w.heap.size w at_
instance (w : World) : Inhabited (BelowOf w) := ⟨⟨w, Below.refl _ _⟩⟩
theorem wp_region_quiet_bel {P : Program} {id : Nat} {Q : Exit → Act → World → Prop} {a : Act} {w : World} {l : List Oper} (hm : P.follows .mixedOrders = true) (hB : Region.lexB .any l.toArray = true)
    (h : wpQuiet P l.toArray (fun w' => ∃ g : BelowOf w, w' = g.at_) (fun a' => ∀ w', (∃ g : BelowOf w, w' = g.at_) → Q .normal a' w') l a) : (Code.region id l.toArray true).wp P Q a w :=
  wp_region_quiet (C := fun w' => ∃ g : BelowOf w, w' = g.at_) hm hB ⟨⟨_, (Below.refl _ _).drew⟩, rfl⟩ (by simpa using h)
theorem bq_cell {w : World} {p : Addr} {v : Value} (h : w.cell? p = some v) : ∀ g : BelowOf w, g.at_.cell? p = some v := fun g => (g.bel.cell (World.block_lt_of_cell? w p h)).trans h
theorem Calls.bel_of {P : Program} {f : FuncId} {args : Array Value} {w : World} {g : BelowOf w} {v : Value}
    (h : Calls P f args g.at_ fun e w' => e = .returned v ∧ Below g.at_.heap.size g.at_ w') : Calls P f args g.at_ fun e w'' => e = .returned v ∧ ∃ g' : BelowOf w, w'' = g'.at_ :=
  h.mono fun _ _ ⟨he, hb⟩ => ⟨he, ⟨_, bl_trans g.bel hb⟩, rfl⟩
theorem Calls.bel_of_same {P : Program} {f : FuncId} {args : Array Value} {w : World} {g : BelowOf w} {v : Value}
    (h : Calls P f args g.at_ fun e w' => e = .returned v ∧ g.at_ = w') : Calls P f args g.at_ fun e w'' => e = .returned v ∧ ∃ g' : BelowOf w, w'' = g'.at_ :=
  h.mono fun _ _ ⟨he, hb⟩ => ⟨he, g, hb.symm⟩

/-! ### a block of the call's own, known whole -/
def Blk (w : World) (g : Nat) (E : TypeId) (xs : List Value) : Prop := w.heap[g]? = some (.cells xs.toArray E (0, 0))
section
variable {w w' : World} {g : Nat} {E : TypeId} {xs : List Value}
theorem Blk.lt (h : Blk w g E xs) : g < w.heap.size := (Array.getElem?_eq_some_iff.1 h).1
theorem Blk.cell (h : Blk w g E xs) (i : Nat) : w.cell? ⟨g, i, none⟩ = xs[i]? := by
  unfold Blk at h
  simp [World.cell?, h]
theorem Blk.frozen (h : Blk w g E xs) (i : Nat) : w.frozen? ⟨g, i, none⟩ = false := by
  unfold Blk at h
  simp [World.frozen?, h]
theorem Blk.below {B : Nat} (h : Blk w g E xs) (hb : Below B w w') (hg : g < B) : Blk w' g E xs := (hb.block g hg).trans h
theorem Blk.bel (h : Blk w g E xs) (hb : Below w.heap.size w w') : Blk w' g E xs := h.below hb h.lt
theorem Blk.alloc (h : Blk w g E xs) (o : Obj) : Blk (w.alloc o) g E xs := (Below.heap_alloc w o g h.lt).trans h
theorem Blk.drew (h : Blk w g E xs) : Blk w.drew g E xs := h
theorem Blk.set_ (h : Blk w g E xs) (i : Nat) (u : Value) : Blk (w.setCell ⟨g, i, none⟩ u) g E (xs.set i u) := by
  unfold Blk at h ⊢
  simp [World.setCell, Array.getElem?_modify, h]
theorem Blk.far (h : Blk w g E xs) {p : Addr} (hp : g ≠ p.block) (u : Value) : Blk (w.setCell p u) g E xs := (Below.heap_setCell w p u g hp).trans h
theorem Blk.farN (h : Blk w g E xs) (b o : Nat) (hp : g ≠ b) (u : Value) : Blk (w.setCell ⟨b, o, none⟩ u) g E xs := h.far (p := ⟨b, o, none⟩) hp u
theorem Blk.new (w : World) (E : TypeId) (xs : List Value) : Blk (w.alloc (.cells xs.toArray E)) w.heap.size E xs := heap_alloc_new w _
theorem Blk.new2 (w : World) (o : Obj) (E : TypeId) (xs : List Value) : Blk ((w.alloc o).alloc (.cells xs.toArray E)) (w.heap.size + 1) E xs := by
  have := Blk.new (w.alloc o) E xs
  rwa [World.size_alloc] at this
theorem Blk.new3 (w : World) (o o' : Obj) (E : TypeId) (xs : List Value) : Blk (((w.alloc o).alloc o').alloc (.cells xs.toArray E)) (w.heap.size + 1 + 1) E xs := by
  have := Blk.new ((w.alloc o).alloc o') E xs
  rwa [World.size_alloc, World.size_alloc] at this
theorem Blk.c1 {a : Value} (h : Blk w g E [a]) : w.cell? ⟨g, 0, none⟩ = some a := h.cell 0
theorem Blk.c2 {a b : Value} (h : Blk w g E [a, b]) : w.cell? ⟨g, 0, none⟩ = some a ∧ w.cell? ⟨g, 1, none⟩ = some b := ⟨h.cell 0, h.cell 1⟩
theorem Blk.c3 {a b c : Value} (h : Blk w g E [a, b, c]) : w.cell? ⟨g, 0, none⟩ = some a ∧ w.cell? ⟨g, 1, none⟩ = some b ∧ w.cell? ⟨g, 2, none⟩ = some c := ⟨h.cell 0, h.cell 1, h.cell 2⟩
theorem Blk.c4 {a b c d : Value} (h : Blk w g E [a, b, c, d]) : w.cell? ⟨g, 0, none⟩ = some a ∧ w.cell? ⟨g, 1, none⟩ = some b ∧ w.cell? ⟨g, 2, none⟩ = some c ∧ w.cell? ⟨g, 3, none⟩ = some d :=
  ⟨h.cell 0, h.cell 1, h.cell 2, h.cell 3⟩
theorem Blk.own {base n sz : Nat} (h : Blk w g E xs) (hb : base ≤ g) (hn : xs.length = n * sz) (hm : n ≤ maxLen) : w.ownsRow base E sz (.slice (some ⟨g, 0, none⟩) n n) n xs :=
  ⟨hn, .inr ⟨g, n, xs.toArray, rfl, hb, h, Nat.le_refl _, hm, by simpa using hn, by rw [← hn]; simp⟩⟩
theorem Blk.rd {n sz : Nat} (h : Blk w g E xs) (hn : xs.length = n * sz) : Rd w sz (some ⟨g, 0, none⟩) n xs :=
  ⟨hn, fun _ => ⟨g, 0, rfl, h.lt, fun j u hu => by rw [Nat.zero_add, h.cell, hu]⟩⟩
end
theorem made_list (z : Value) (n : Nat) : madeCells #[z] n = (List.replicate n z).toArray := by
  simp only [madeCells]
  apply Array.ext
  · simp
  · intro i h1 h2
    simp [Nat.mod_one]

theorem made_flat {α : Type} (f : α → List Value) (a0 : α) (m : Nat) (hm : 0 < m) (hf : ∀ a, (f a).length = m) (n : Nat) : madeCells (f a0).toArray (n * m) = ((List.replicate n a0).flatMap f).toArray := by
  apply Array.ext
  · rw [size_madeCells, List.size_toArray, flatMap_len f m hf, List.length_replicate]
  · intro i h1 h2
    rw [size_madeCells] at h1
    have hq : i / m < n := Nat.div_lt_of_lt_mul (by rw [Nat.mul_comm]; exact h1)
    have hr : i % m < m := Nat.mod_lt _ hm
    have hg := flatMap_get f m hf (List.replicate n a0) (i / m) (i % m) a0 (by rw [List.getElem?_replicate, if_pos hq]) hr
    have ei : i / m * m + i % m = i := by rw [Nat.mul_comm]; exact Nat.div_add_mod i m
    rw [ei] at hg
    have hl : i % m < (f a0).length := by rw [hf]; exact hr
    have e1 : ((List.replicate n a0).flatMap f).toArray[i]'h2 = (f a0)[i % m]'hl := by
      have := List.getElem?_eq_getElem (l := (List.replicate n a0).flatMap f) (i := i) (by simpa using h2)
      rw [this, List.getElem?_eq_getElem hl] at hg
      simpa using Option.some.inj hg
    rw [e1]
    simp only [madeCells, Array.getElem_map, Array.getElem_range, List.size_toArray, hf]
    rw [getElem!_pos _ _ (by simpa [hf] using hr)]
    simp
theorem run_make_structs {P : Program} {α : Type} (f : α → List Value) (a0 : α) (m : Nat) (hm : 0 < m) (hf : ∀ a, (f a).length = m) (t e : TypeId) (z : Value) (bytes : Nat) (ht : P.underlying t = some (.slice e))
    (hinfo : (P.info? e).map (fun i => (i.zero, i.size, i.bytes)) = some (some z, m, bytes)) (hz : z.cells = (f a0).toArray) (n : Nat) (hb : bytes * n ≤ 281474976710656) (h63 : n ≤ 9223372036854775807) (w : World) :
    (Instr.makeSlice t (.int .i64 (n : Int)) (.int .i64 (n : Int))).run P w = .ok (.slice (some ⟨w.heap.size, 0, none⟩) n n) (w.alloc (.cells ((List.replicate n a0).flatMap f).toArray e)) := by
  obtain ⟨i, hi, hzz⟩ := Option.map_eq_some_iff.1 hinfo
  simp only [Prod.mk.injEq] at hzz
  obtain ⟨hz', hs, hb'⟩ := hzz
  have := run_make (P := P) w t e i z ht hi hz' .i64 .i64 (n : Int) (n : Int) (by omega) (by omega) (by rw [hb']; have e : ((bytes * n : Nat) : Int) = (bytes : Int) * (n : Int) := Int.natCast_mul _ _; omega) (by omega)
  rw [this, hz, hs]
  simp only [Int.toNat_natCast]
  rw [made_flat f a0 m hm hf n]

/-! ### slices of the call's own, by their lists -/
def OwI (B : Nat) (w : World) (v : Value) (l : List Int) : Prop := (∃ A c, v = .slice A l.length c) ∧ w.ownsRow B 3 1 v l.length (l.map cI) ∧ ∀ x ∈ l, I64 x
def OwC (B : Nat) (w : World) (v : Value) (l : List (Int × Int)) : Prop := (∃ A c, v = .slice A l.length c) ∧ w.ownsRow B 35 2 v l.length (l.flatMap cC) ∧ ∀ x ∈ l, I64 x.1 ∧ I64 x.2
def OwD (B : Nat) (w : World) (v : Value) (l : List (Int × Int × Bool)) : Prop := (∃ A c, v = .slice A l.length c) ∧ w.ownsRow B 53 3 v l.length (l.flatMap cD) ∧ ∀ x ∈ l, I64 x.1 ∧ I64 x.2.1
def OwT (B : Nat) (w : World) (v : Value) (l : List (Int × Int × Int)) : Prop := (∃ A c, v = .slice A l.length c) ∧ w.ownsRow B 68 3 v l.length (l.flatMap cT) ∧ ∀ x ∈ l, I64 x.1 ∧ I64 x.2.1 ∧ I64 x.2.2
theorem OwI.set_ {B : Nat} {w : World} {v : Value} {l : List Int} (h : OwI B w v l) {p : Addr} (hp : p.block < B) (u : Value) : OwI B (w.setCell p u) v l := ⟨h.1, ownsRow_setCell_below h.2.1 hp u, h.2.2⟩
theorem OwI.rd {B : Nat} {w : World} {A : Option Addr} {n c : Nat} {l : List Int} (h : OwI B w (.slice A n c) l) : RdI w A l := by
  obtain ⟨⟨A', c', e⟩, h1, h2⟩ := h
  injection e with e1 e2 e3
  subst e2
  exact ⟨Rd.of_own h1, h2⟩
theorem OwC.rd {B : Nat} {w : World} {A : Option Addr} {n c : Nat} {l : List (Int × Int)} (h : OwC B w (.slice A n c) l) : RdC w A l := by
  obtain ⟨⟨A', c', e⟩, h1, h2⟩ := h
  injection e with e1 e2 e3
  subst e2
  exact ⟨Rd.of_own h1, h2⟩
theorem OwD.rd {B : Nat} {w : World} {A : Option Addr} {n c : Nat} {l : List (Int × Int × Bool)} (h : OwD B w (.slice A n c) l) : RdD w A l := by
  obtain ⟨⟨A', c', e⟩, h1, h2⟩ := h
  injection e with e1 e2 e3
  subst e2
  exact ⟨Rd.of_own h1, h2⟩
theorem OwT.rd {B : Nat} {w : World} {A : Option Addr} {n c : Nat} {l : List (Int × Int × Int)} (h : OwT B w (.slice A n c) l) : RdT w A l := by
  obtain ⟨⟨A', c', e⟩, h1, h2⟩ := h
  injection e with e1 e2 e3
  subst e2
  exact ⟨Rd.of_own h1, h2⟩
theorem res_pair {fn : Func} {s1 s2 g1 g2 : Nat} (hres : fn.results = #[.cell s1 35, .cell s2 35]) {tmps : Array Value} {w : World} {a b c d : Value}
    (h1 : tmps.getD s1 undef = .pointer (some ⟨g1, 0, none⟩)) (h2 : tmps.getD s2 undef = .pointer (some ⟨g2, 0, none⟩)) (B1 : Blk w g1 35 [a, b]) (B2 : Blk w g2 35 [c, d]) :
    (results fn tmps).run Try.prog w = .ok (.tuple #[.agg #[a, b], .agg #[c, d]]) w := by
  have c1 := B1.c2
  have c2 := B2.c2
  simp only [Array.getD_eq_getD_getElem?] at h1 h2
  simp [results, hres, h1, h2, go_sem, c1, c2]
end Go.Proofs.Ytdcjhfmkkcakhaa

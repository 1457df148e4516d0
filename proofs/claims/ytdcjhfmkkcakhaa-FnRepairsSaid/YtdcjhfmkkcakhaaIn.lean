/-
  Slices of the call's own that lie between two bounds of the heap, kept over calls and over writes to other blocks; the laws' marks (markS) and the reading of marks (heldS) for each kind of element; no statement is proved here; lists of at most 1048576.
-/
import Derived.Test.YtdcjhfmkkcakhaaOwn
import Derived.Test.YtdcjhfmkkcakhaaInts
import Derived.Maps.AppendAt
namespace Go.Proofs.Ytdcjhfmkkcakhaa
open Go.ChangeShapes Go.WideShapes Go.ChangeAt Go.RowKit Go.Deep
set_option linter.unusedVariables false

theorem bl_grown' {B : Nat} {a w w' : World} {v : Value} (h : Below B a w) (hg : w.grownBy w' v.ownBlock) (hB : B ≤ w.heap.size) (hr : ∀ k, v.ownBlock = some k → B ≤ k) : Below B a w' := h.grown hg hB hr
theorem Blk.far' {w w' : World} {g : Nat} {E : TypeId} {xs : List Value} {v : Value} (h : Blk w g E xs) (hg : w.grownBy w' v.ownBlock) (hne : ∀ k, v.ownBlock = some k → g ≠ k) : Blk w' g E xs :=
  (hg.block g h.lt (fun e => hne g e.symm rfl)).trans h
theorem bl_size2 {w X w1 : World} (h : Below w.heap.size w X) (h1 : Below X.heap.size X w1) : w.heap.size ≤ w1.heap.size := Nat.le_trans h.size h1.size
theorem bl_start {w X : World} (h : Below w.heap.size w X) : w.heap.size ≤ X.heap.size := h.size
theorem grown_set {w wr : World} {g i : Nat} {u : Value} (h : w.grownBy wr (some g)) : w.grownBy (wr.setCell ⟨g, i, none⟩ u) (some g) :=
  ⟨h.os, h.tape, h.output, by simpa using h.size, fun k hk hne => (Below.heap_setCell wr ⟨g, i, none⟩ u k (by intro e; exact hne (by rw [e]))).trans (h.block k hk hne)⟩
theorem grown_refl (w : World) (row : Option Nat) : w.grownBy w row := ⟨rfl, rfl, rfl, Nat.le_refl _, fun _ _ _ => rfl⟩
def mks {α : Type} (f : Int → α) (s k : Int) (n : Nat) : List α := (List.range n).map fun (i : Nat) => f (k + s * i)
theorem mks_len {α : Type} (f : Int → α) (s k : Int) (n : Nat) : (mks f s k n).length = n := by simp [mks]
theorem mks_get {α : Type} (f : Int → α) (s k : Int) (n i : Nat) (h : i < n) : (mks f s k n)[i]? = some (f (k + s * i)) := by simp [mks, h]
theorem mks_succ {α : Type} (f : Int → α) (s k : Int) (n : Nat) : mks f s k (n + 1) = mks f s k n ++ [f (k + s * n)] := by simp [mks, List.range_succ]
theorem mks_mem {α : Type} {f : Int → α} {s k : Int} {n : Nat} {x : α} (h : x ∈ mks f s k n) : ∃ i : Nat, i < n ∧ x = f (k + s * i) := by
  obtain ⟨i, hi, rfl⟩ := List.mem_map.1 h
  exact ⟨i, List.mem_range.1 hi, rfl⟩
def mfI (q : Int) : Int := q
def mfC (q : Int) : Int × Int := (q, q + 1)
def mfD (q : Int) : Int × Int × Bool := (q, q + 1, (q + 1 + 1) % 3 == 0)
def mfT (q : Int) : Int × Int × Int := (q, q + 1, q + 1 + 1)

def InI (lo hi : Nat) (w : World) (v : Value) (l : List Int) : Prop := OwI lo w v l ∧ ∀ k, v.ownBlock = some k → k < hi
section
variable {lo hi lo' : Nat} {w w' : World} {v : Value} {l : List Int}
theorem InI.rng (h : InI lo hi w v l) : ∀ k, v.ownBlock = some k → lo ≤ k ∧ k < hi := fun k hk => ⟨(h.1.2.1.lt k hk).1, h.2 k hk⟩
theorem InI.lt (h : InI lo hi w v l) : ∀ k, v.ownBlock = some k → k < w.heap.size := fun k hk => (h.1.2.1.lt k hk).2
theorem InI.bel (h : InI lo hi w v l) (hb : Below w.heap.size w w') : InI lo hi w' v l := ⟨⟨h.1.1, ownsRow_bel h.1.2.1 hb, h.1.2.2⟩, h.2⟩
theorem InI.far (h : InI lo hi w v l) {u : Value} (hg : w.grownBy w' u.ownBlock) (hd : ∀ k, u.ownBlock = some k → k < lo ∨ hi ≤ k) : InI lo hi w' v l :=
  ⟨⟨h.1.1, h.1.2.1.kept hg (by
    cases hv : v.ownBlock with
    | none => exact .inl rfl
    | some k => exact .inr (fun e => by have h1 := h.rng k hv; have := hd k e.symm; omega)), h.1.2.2⟩, h.2⟩
theorem InI.rd {A : Option Addr} {n c : Nat} (h : InI lo hi w (.slice A n c) l) : RdI w A l := h.1.rd
theorem InI.len {A : Option Addr} {n c : Nat} (h : InI lo hi w (.slice A n c) l) : n = l.length := by obtain ⟨⟨A', c', e⟩, _⟩ := h.1; injection e
theorem OwI.in_ (h : OwI lo w v l) (hl : lo' ≤ lo) : InI lo' w.heap.size w v l := ⟨⟨h.1, ownsRow_mono h.2.1 hl, h.2.2⟩, fun k hk => (h.2.1.lt k hk).2⟩
theorem OwI.set' (h : OwI lo w v l) {p : Addr} (hp : p.block < lo) (u : Value) : OwI lo (w.setCell p u) v l := ⟨h.1, ownsRow_setCell_below h.2.1 hp u, h.2.2⟩
theorem OwI.alloc' (h : OwI lo w v l) (o : Obj) : OwI lo (w.alloc o) v l := ⟨h.1, h.2.1.alloc o, h.2.2⟩
theorem OwI.form (h : OwI lo w v l) : ∃ A c, v = .slice A l.length c := h.1
end
theorem OwI.blk' {B : Nat} {w : World} {v : Value} {l : List Int} (h : OwI B w v l) (hl : l ≠ []) :
    ∃ g cap rest, v = .slice (some ⟨g, 0, none⟩) l.length cap ∧ B ≤ g ∧ l.length ≤ cap ∧ cap ≤ maxLen ∧ ((l.map cI) ++ rest).length = cap * 1 ∧ Blk w g 3 ((l.map cI) ++ rest) := by
  rcases h.2.1.2 with ⟨_, h0⟩ | ⟨g, cap, cur, hv, hb, hg, hn, hm, hs, ht⟩
  · exact absurd (List.eq_nil_of_length_eq_zero h0) hl
  · have e : (l.map cI) ++ cur.toList.drop (l.length * 1) = cur.toList := by rw [← ht]; exact List.take_append_drop _ _
    refine ⟨g, cap, cur.toList.drop (l.length * 1), hv, hb, hn, hm, ?_, ?_⟩
    · rw [e]; simpa using hs
    · rw [e]; exact hg
theorem Blk.ownI' {B g cap : Nat} {w : World} {l : List Int} {rest : List Value} (h : Blk w g 3 ((l.map cI) ++ rest)) (hB : B ≤ g) (hn : l.length ≤ cap) (hm : cap ≤ maxLen) (hs : ((l.map cI) ++ rest).length = cap * 1) (hg : ∀ x ∈ l, I64 x) :
    OwI B w (.slice (some ⟨g, 0, none⟩) l.length cap) l := by
  have e : (l.map cI).length = l.length * 1 := by simp
  exact ⟨⟨_, _, rfl⟩, ⟨e, .inr ⟨g, cap, _, rfl, hB, h, hn, hm, by simpa using hs, by rw [← e]; simp⟩⟩, hg⟩
def InC (lo hi : Nat) (w : World) (v : Value) (l : List (Int × Int)) : Prop := OwC lo w v l ∧ ∀ k, v.ownBlock = some k → k < hi
section
variable {lo hi lo' : Nat} {w w' : World} {v : Value} {l : List (Int × Int)}
theorem InC.rng (h : InC lo hi w v l) : ∀ k, v.ownBlock = some k → lo ≤ k ∧ k < hi := fun k hk => ⟨(h.1.2.1.lt k hk).1, h.2 k hk⟩
theorem InC.lt (h : InC lo hi w v l) : ∀ k, v.ownBlock = some k → k < w.heap.size := fun k hk => (h.1.2.1.lt k hk).2
theorem InC.bel (h : InC lo hi w v l) (hb : Below w.heap.size w w') : InC lo hi w' v l := ⟨⟨h.1.1, ownsRow_bel h.1.2.1 hb, h.1.2.2⟩, h.2⟩
theorem InC.far (h : InC lo hi w v l) {u : Value} (hg : w.grownBy w' u.ownBlock) (hd : ∀ k, u.ownBlock = some k → k < lo ∨ hi ≤ k) : InC lo hi w' v l :=
  ⟨⟨h.1.1, h.1.2.1.kept hg (by
    cases hv : v.ownBlock with
    | none => exact .inl rfl
    | some k => exact .inr (fun e => by have h1 := h.rng k hv; have := hd k e.symm; omega)), h.1.2.2⟩, h.2⟩
theorem InC.rd {A : Option Addr} {n c : Nat} (h : InC lo hi w (.slice A n c) l) : RdC w A l := h.1.rd
theorem InC.len {A : Option Addr} {n c : Nat} (h : InC lo hi w (.slice A n c) l) : n = l.length := by obtain ⟨⟨A', c', e⟩, _⟩ := h.1; injection e
theorem OwC.in_ (h : OwC lo w v l) (hl : lo' ≤ lo) : InC lo' w.heap.size w v l := ⟨⟨h.1, ownsRow_mono h.2.1 hl, h.2.2⟩, fun k hk => (h.2.1.lt k hk).2⟩
theorem OwC.set' (h : OwC lo w v l) {p : Addr} (hp : p.block < lo) (u : Value) : OwC lo (w.setCell p u) v l := ⟨h.1, ownsRow_setCell_below h.2.1 hp u, h.2.2⟩
theorem OwC.alloc' (h : OwC lo w v l) (o : Obj) : OwC lo (w.alloc o) v l := ⟨h.1, h.2.1.alloc o, h.2.2⟩
theorem OwC.form (h : OwC lo w v l) : ∃ A c, v = .slice A l.length c := h.1
end
theorem OwC.blk' {B : Nat} {w : World} {v : Value} {l : List (Int × Int)} (h : OwC B w v l) (hl : l ≠ []) :
    ∃ g cap rest, v = .slice (some ⟨g, 0, none⟩) l.length cap ∧ B ≤ g ∧ l.length ≤ cap ∧ cap ≤ maxLen ∧ ((l.flatMap cC) ++ rest).length = cap * 2 ∧ Blk w g 35 ((l.flatMap cC) ++ rest) := by
  rcases h.2.1.2 with ⟨_, h0⟩ | ⟨g, cap, cur, hv, hb, hg, hn, hm, hs, ht⟩
  · exact absurd (List.eq_nil_of_length_eq_zero h0) hl
  · have e : (l.flatMap cC) ++ cur.toList.drop (l.length * 2) = cur.toList := by rw [← ht]; exact List.take_append_drop _ _
    refine ⟨g, cap, cur.toList.drop (l.length * 2), hv, hb, hn, hm, ?_, ?_⟩
    · rw [e]; simpa using hs
    · rw [e]; exact hg
theorem Blk.ownC' {B g cap : Nat} {w : World} {l : List (Int × Int)} {rest : List Value} (h : Blk w g 35 ((l.flatMap cC) ++ rest)) (hB : B ≤ g) (hn : l.length ≤ cap) (hm : cap ≤ maxLen) (hs : ((l.flatMap cC) ++ rest).length = cap * 2) (hg : ∀ x ∈ l, I64 x.1 ∧ I64 x.2) :
    OwC B w (.slice (some ⟨g, 0, none⟩) l.length cap) l := by
  have e : (l.flatMap cC).length = l.length * 2 := flatMap_len cC 2 (fun _ => rfl) l
  exact ⟨⟨_, _, rfl⟩, ⟨e, .inr ⟨g, cap, _, rfl, hB, h, hn, hm, by simpa using hs, by rw [← e]; simp⟩⟩, hg⟩
def InD (lo hi : Nat) (w : World) (v : Value) (l : List (Int × Int × Bool)) : Prop := OwD lo w v l ∧ ∀ k, v.ownBlock = some k → k < hi
section
variable {lo hi lo' : Nat} {w w' : World} {v : Value} {l : List (Int × Int × Bool)}
theorem InD.rng (h : InD lo hi w v l) : ∀ k, v.ownBlock = some k → lo ≤ k ∧ k < hi := fun k hk => ⟨(h.1.2.1.lt k hk).1, h.2 k hk⟩
theorem InD.lt (h : InD lo hi w v l) : ∀ k, v.ownBlock = some k → k < w.heap.size := fun k hk => (h.1.2.1.lt k hk).2
theorem InD.bel (h : InD lo hi w v l) (hb : Below w.heap.size w w') : InD lo hi w' v l := ⟨⟨h.1.1, ownsRow_bel h.1.2.1 hb, h.1.2.2⟩, h.2⟩
theorem InD.far (h : InD lo hi w v l) {u : Value} (hg : w.grownBy w' u.ownBlock) (hd : ∀ k, u.ownBlock = some k → k < lo ∨ hi ≤ k) : InD lo hi w' v l :=
  ⟨⟨h.1.1, h.1.2.1.kept hg (by
    cases hv : v.ownBlock with
    | none => exact .inl rfl
    | some k => exact .inr (fun e => by have h1 := h.rng k hv; have := hd k e.symm; omega)), h.1.2.2⟩, h.2⟩
theorem InD.rd {A : Option Addr} {n c : Nat} (h : InD lo hi w (.slice A n c) l) : RdD w A l := h.1.rd
theorem InD.len {A : Option Addr} {n c : Nat} (h : InD lo hi w (.slice A n c) l) : n = l.length := by obtain ⟨⟨A', c', e⟩, _⟩ := h.1; injection e
theorem OwD.in_ (h : OwD lo w v l) (hl : lo' ≤ lo) : InD lo' w.heap.size w v l := ⟨⟨h.1, ownsRow_mono h.2.1 hl, h.2.2⟩, fun k hk => (h.2.1.lt k hk).2⟩
theorem OwD.set' (h : OwD lo w v l) {p : Addr} (hp : p.block < lo) (u : Value) : OwD lo (w.setCell p u) v l := ⟨h.1, ownsRow_setCell_below h.2.1 hp u, h.2.2⟩
theorem OwD.alloc' (h : OwD lo w v l) (o : Obj) : OwD lo (w.alloc o) v l := ⟨h.1, h.2.1.alloc o, h.2.2⟩
theorem OwD.form (h : OwD lo w v l) : ∃ A c, v = .slice A l.length c := h.1
end
theorem OwD.blk' {B : Nat} {w : World} {v : Value} {l : List (Int × Int × Bool)} (h : OwD B w v l) (hl : l ≠ []) :
    ∃ g cap rest, v = .slice (some ⟨g, 0, none⟩) l.length cap ∧ B ≤ g ∧ l.length ≤ cap ∧ cap ≤ maxLen ∧ ((l.flatMap cD) ++ rest).length = cap * 3 ∧ Blk w g 53 ((l.flatMap cD) ++ rest) := by
  rcases h.2.1.2 with ⟨_, h0⟩ | ⟨g, cap, cur, hv, hb, hg, hn, hm, hs, ht⟩
  · exact absurd (List.eq_nil_of_length_eq_zero h0) hl
  · have e : (l.flatMap cD) ++ cur.toList.drop (l.length * 3) = cur.toList := by rw [← ht]; exact List.take_append_drop _ _
    refine ⟨g, cap, cur.toList.drop (l.length * 3), hv, hb, hn, hm, ?_, ?_⟩
    · rw [e]; simpa using hs
    · rw [e]; exact hg
theorem Blk.ownD' {B g cap : Nat} {w : World} {l : List (Int × Int × Bool)} {rest : List Value} (h : Blk w g 53 ((l.flatMap cD) ++ rest)) (hB : B ≤ g) (hn : l.length ≤ cap) (hm : cap ≤ maxLen) (hs : ((l.flatMap cD) ++ rest).length = cap * 3) (hg : ∀ x ∈ l, I64 x.1 ∧ I64 x.2.1) :
    OwD B w (.slice (some ⟨g, 0, none⟩) l.length cap) l := by
  have e : (l.flatMap cD).length = l.length * 3 := flatMap_len cD 3 (fun _ => rfl) l
  exact ⟨⟨_, _, rfl⟩, ⟨e, .inr ⟨g, cap, _, rfl, hB, h, hn, hm, by simpa using hs, by rw [← e]; simp⟩⟩, hg⟩
def InT (lo hi : Nat) (w : World) (v : Value) (l : List (Int × Int × Int)) : Prop := OwT lo w v l ∧ ∀ k, v.ownBlock = some k → k < hi
section
variable {lo hi lo' : Nat} {w w' : World} {v : Value} {l : List (Int × Int × Int)}
theorem InT.rng (h : InT lo hi w v l) : ∀ k, v.ownBlock = some k → lo ≤ k ∧ k < hi := fun k hk => ⟨(h.1.2.1.lt k hk).1, h.2 k hk⟩
theorem InT.lt (h : InT lo hi w v l) : ∀ k, v.ownBlock = some k → k < w.heap.size := fun k hk => (h.1.2.1.lt k hk).2
theorem InT.bel (h : InT lo hi w v l) (hb : Below w.heap.size w w') : InT lo hi w' v l := ⟨⟨h.1.1, ownsRow_bel h.1.2.1 hb, h.1.2.2⟩, h.2⟩
theorem InT.far (h : InT lo hi w v l) {u : Value} (hg : w.grownBy w' u.ownBlock) (hd : ∀ k, u.ownBlock = some k → k < lo ∨ hi ≤ k) : InT lo hi w' v l :=
  ⟨⟨h.1.1, h.1.2.1.kept hg (by
    cases hv : v.ownBlock with
    | none => exact .inl rfl
    | some k => exact .inr (fun e => by have h1 := h.rng k hv; have := hd k e.symm; omega)), h.1.2.2⟩, h.2⟩
theorem InT.rd {A : Option Addr} {n c : Nat} (h : InT lo hi w (.slice A n c) l) : RdT w A l := h.1.rd
theorem InT.len {A : Option Addr} {n c : Nat} (h : InT lo hi w (.slice A n c) l) : n = l.length := by obtain ⟨⟨A', c', e⟩, _⟩ := h.1; injection e
theorem OwT.in_ (h : OwT lo w v l) (hl : lo' ≤ lo) : InT lo' w.heap.size w v l := ⟨⟨h.1, ownsRow_mono h.2.1 hl, h.2.2⟩, fun k hk => (h.2.1.lt k hk).2⟩
theorem OwT.set' (h : OwT lo w v l) {p : Addr} (hp : p.block < lo) (u : Value) : OwT lo (w.setCell p u) v l := ⟨h.1, ownsRow_setCell_below h.2.1 hp u, h.2.2⟩
theorem OwT.alloc' (h : OwT lo w v l) (o : Obj) : OwT lo (w.alloc o) v l := ⟨h.1, h.2.1.alloc o, h.2.2⟩
theorem OwT.form (h : OwT lo w v l) : ∃ A c, v = .slice A l.length c := h.1
end
theorem OwT.blk' {B : Nat} {w : World} {v : Value} {l : List (Int × Int × Int)} (h : OwT B w v l) (hl : l ≠ []) :
    ∃ g cap rest, v = .slice (some ⟨g, 0, none⟩) l.length cap ∧ B ≤ g ∧ l.length ≤ cap ∧ cap ≤ maxLen ∧ ((l.flatMap cT) ++ rest).length = cap * 3 ∧ Blk w g 68 ((l.flatMap cT) ++ rest) := by
  rcases h.2.1.2 with ⟨_, h0⟩ | ⟨g, cap, cur, hv, hb, hg, hn, hm, hs, ht⟩
  · exact absurd (List.eq_nil_of_length_eq_zero h0) hl
  · have e : (l.flatMap cT) ++ cur.toList.drop (l.length * 3) = cur.toList := by rw [← ht]; exact List.take_append_drop _ _
    refine ⟨g, cap, cur.toList.drop (l.length * 3), hv, hb, hn, hm, ?_, ?_⟩
    · rw [e]; simpa using hs
    · rw [e]; exact hg
theorem Blk.ownT' {B g cap : Nat} {w : World} {l : List (Int × Int × Int)} {rest : List Value} (h : Blk w g 68 ((l.flatMap cT) ++ rest)) (hB : B ≤ g) (hn : l.length ≤ cap) (hm : cap ≤ maxLen) (hs : ((l.flatMap cT) ++ rest).length = cap * 3) (hg : ∀ x ∈ l, I64 x.1 ∧ I64 x.2.1 ∧ I64 x.2.2) :
    OwT B w (.slice (some ⟨g, 0, none⟩) l.length cap) l := by
  have e : (l.flatMap cT).length = l.length * 3 := flatMap_len cT 3 (fun _ => rfl) l
  exact ⟨⟨_, _, rfl⟩, ⟨e, .inr ⟨g, cap, _, rfl, hB, h, hn, hm, by simpa using hs, by rw [← e]; simp⟩⟩, hg⟩
theorem Blk.getI {w : World} {g : Nat} {E : TypeId} {l : List Int} (h : Blk w g E (l.map cI)) {r : Nat} {v : Int} (hv : l[r]? = some v) : w.cell? ⟨g, r, none⟩ = some (.int .i64 v) := by
  rw [h.cell, List.getElem?_map, hv]; rfl
theorem Blk.setI {w : World} {g : Nat} {E : TypeId} {l : List Int} (h : Blk w g E (l.map cI)) (r : Nat) (v : Int) : Blk (w.setCell ⟨g, r, none⟩ (.int .i64 v)) g E ((l.set r v).map cI) := by
  have := h.set_ r (.int .i64 v)
  rwa [show (l.map cI).set r (Value.int .i64 v) = (l.set r v).map cI by rw [List.map_set]; rfl] at this
theorem Blk.rdI {w : World} {g : Nat} {E : TypeId} {l : List Int} (h : Blk w g E (l.map cI)) (hl : ∀ x ∈ l, I64 x) : RdI w (some ⟨g, 0, none⟩) l := ⟨h.rd (by simp), hl⟩
theorem grown_bel {w X w1 : World} {row : Option Nat} (h : Below w.heap.size w X) (hg : X.grownBy w1 row) : w.grownBy w1 row :=
  ⟨hg.os.trans h.os, hg.tape.trans h.tape, hg.output.trans h.output, Nat.le_trans h.size hg.size, fun k hk hne => (hg.block k (Nat.lt_of_lt_of_le hk h.size) hne).trans (h.block k hk)⟩
theorem append_at {P : Program} {wr : World} {ops : Array Oper} {rest : List Oper} {o : Oper} {a : Act} {Q : Exit → Act → World → Prop} (hgd : o.guard = none) (s x : Operand) (T : TypeId)
    (ho : o.op = .call { callee := .builtin .append, args := #[s, x], argTypes := #[T, T] })
    (B : Nat) (E : TypeId) (z : Value) (sz bytes : Nat) (ht : P.underlying T = some (.slice E)) (hinfo : (P.info? E).map (fun i => (i.zero, i.size, i.bytes)) = some (some z, sz, bytes)) (hzs : z.cells.size = sz) (hsz : 0 < sz) (hby : bytes ≤ 100)
    (v : Value) (n : Nat) (xs news : List Value) (hs : a.eval s = v) (hx : a.eval x = .slice (some ⟨wr.heap.size, 0, none⟩) 1 1) (hown : wr.ownsRow B E sz v n xs) (hl : news.length = sz) (h1 : ∀ u ∈ news, u.oneCell' = true) (hn : n ≤ 1048576) (hB : B ≤ wr.heap.size)
    (h : ∀ v' w1, w1.ownsRow B E sz v' (n + 1) (xs ++ news) → (wr.alloc (.cells news.toArray E)).grownBy w1 v.ownBlock → (v'.ownBlock = v.ownBlock ∨ v'.ownBlock = some (wr.heap.size + 1)) → wpList P ops Q rest (a.put o.dst v') w1) :
    wpList P ops Q (o :: rest) a (wr.alloc (.cells news.toArray E)) := by
  obtain ⟨i, hi, hzz⟩ := Option.map_eq_some_iff.1 hinfo
  simp only [Prod.mk.injEq] at hzz
  obtain ⟨hz, hs', hb⟩ := hzz
  refine wpList_append_own_at (P := P) _ hgd s x T ho B E i z sz bytes ht hi hz hs' hb hzs hsz v n xs hs (hown.alloc _) ⟨wr.heap.size, 0, none⟩ 1 1 news hx (by rw [hl, Nat.one_mul]) (fun j u hu => ?_) h1 (by simp only [maxLen]; omega) ?_ (by simp; omega) (fun v' w' g1 g2 _ g3 => h v' w' g1 g2 (by rw [World.size_alloc] at g3; exact g3))
  · rw [Addr.add_lit, Nat.zero_add, (Blk.new wr E news).cell j]; exact hu
  · have := Nat.mul_le_mul (show n + 1 ≤ 1048577 by omega) hby; omega
theorem wpList_atI {wr : World} {ops : Array Oper} {rest : List Oper} {o : Oper} {a : Act} {Q : Exit → Act → World → Prop} (hgd : o.guard = none) (s x : Operand) (ho : o.op = .call { callee := .builtin .append, args := #[s, x], argTypes := #[24, 24] })
    (B : Nat) (v : Value) (l : List Int) (c : Int) (hs : a.eval s = v) (hx : a.eval x = .slice (some ⟨wr.heap.size, 0, none⟩) 1 1) (hown : OwI B wr v l) (hB : B ≤ wr.heap.size) (hn : l.length ≤ 1048576) (hc : I64 c)
    (h : ∀ v' w1, OwI B w1 v' (l ++ [c]) → (∀ w, Below B w wr → Below B w w1) → wr.grownBy w1 v.ownBlock → (v'.ownBlock = v.ownBlock ∨ v'.ownBlock = some (wr.heap.size + 1)) → wr.heap.size + 1 ≤ w1.heap.size → wpList Try.prog ops Q rest (a.put o.dst v') w1) :
    wpList Try.prog ops Q (o :: rest) a (wr.alloc (.cells #[.int .i64 c] 3)) := by
  obtain ⟨_, o1, o2⟩ := hown
  refine append_at (P := Try.prog) hgd s x 24 ho B 3 (.int .i64 0) 1 8 Try.underlying24 (by kernel_rfl) rfl (by decide) (by decide) v l.length (l.map cI) [.int .i64 c] hs hx o1 rfl (by simp [Value.oneCell']) hn hB (fun v' w1 g1 g2 g3 => h v' w1 ⟨?_, ?_, ?_⟩ (fun w hb => below_grown o1 hB hb g2) (grown_bel (Below.alloc (Below.refl _ _) (Nat.le_refl _) _) g2) g3 (by have := g2.size; simpa using this))
  · simpa using own_form g1
  · simpa [cI] using g1
  · intro y hy
    rcases List.mem_append.1 hy with hy | hy
    · exact o2 y hy
    · simp at hy; subst hy; exact hc
theorem wpList_atC {wr : World} {ops : Array Oper} {rest : List Oper} {o : Oper} {a : Act} {Q : Exit → Act → World → Prop} (hgd : o.guard = none) (s x : Operand) (ho : o.op = .call { callee := .builtin .append, args := #[s, x], argTypes := #[28, 28] })
    (B : Nat) (v : Value) (l : List (Int × Int)) (c d : Int) (hs : a.eval s = v) (hx : a.eval x = .slice (some ⟨wr.heap.size, 0, none⟩) 1 1) (hown : OwC B wr v l) (hB : B ≤ wr.heap.size) (hn : l.length ≤ 1048576) (hc : I64 c) (hd : I64 d)
    (h : ∀ v' w1, OwC B w1 v' (l ++ [(c, d)]) → (∀ w, Below B w wr → Below B w w1) → wr.grownBy w1 v.ownBlock → (v'.ownBlock = v.ownBlock ∨ v'.ownBlock = some (wr.heap.size + 1)) → wr.heap.size + 1 ≤ w1.heap.size → wpList Try.prog ops Q rest (a.put o.dst v') w1) :
    wpList Try.prog ops Q (o :: rest) a (wr.alloc (.cells #[.int .i64 c, .int .i64 d] 35)) := by
  obtain ⟨_, o1, o2⟩ := hown
  refine append_at (P := Try.prog) hgd s x 28 ho B 35 (.agg #[.int .i64 0, .int .i64 0]) 2 16 Try.underlying28 (by kernel_rfl) rfl (by decide) (by decide) v l.length (l.flatMap cC) [.int .i64 c, .int .i64 d] hs hx o1 rfl (by simp [Value.oneCell']) hn hB (fun v' w1 g1 g2 g3 => h v' w1 ⟨?_, ?_, ?_⟩ (fun w hb => below_grown o1 hB hb g2) (grown_bel (Below.alloc (Below.refl _ _) (Nat.le_refl _) _) g2) g3 (by have := g2.size; simpa using this))
  · simpa using own_form g1
  · simpa [cC] using g1
  · intro y hy
    rcases List.mem_append.1 hy with hy | hy
    · exact o2 y hy
    · simp at hy; subst hy; exact ⟨hc, hd⟩
theorem wpList_atD {wr : World} {ops : Array Oper} {rest : List Oper} {o : Oper} {a : Act} {Q : Exit → Act → World → Prop} (hgd : o.guard = none) (s x : Operand) (ho : o.op = .call { callee := .builtin .append, args := #[s, x], argTypes := #[46, 46] })
    (B : Nat) (v : Value) (l : List (Int × Int × Bool)) (c d : Int) (e : Bool) (hs : a.eval s = v) (hx : a.eval x = .slice (some ⟨wr.heap.size, 0, none⟩) 1 1) (hown : OwD B wr v l) (hB : B ≤ wr.heap.size) (hn : l.length ≤ 1048576) (hc : I64 c) (hd : I64 d)
    (h : ∀ v' w1, OwD B w1 v' (l ++ [(c, d, e)]) → (∀ w, Below B w wr → Below B w w1) → wr.grownBy w1 v.ownBlock → (v'.ownBlock = v.ownBlock ∨ v'.ownBlock = some (wr.heap.size + 1)) → wr.heap.size + 1 ≤ w1.heap.size → wpList Try.prog ops Q rest (a.put o.dst v') w1) :
    wpList Try.prog ops Q (o :: rest) a (wr.alloc (.cells #[.int .i64 c, .int .i64 d, .bool e] 53)) := by
  obtain ⟨_, o1, o2⟩ := hown
  refine append_at (P := Try.prog) hgd s x 46 ho B 53 (.agg #[.int .i64 0, .int .i64 0, .bool false]) 3 24 Try.underlying46 (by kernel_rfl) rfl (by decide) (by decide) v l.length (l.flatMap cD) [.int .i64 c, .int .i64 d, .bool e] hs hx o1 rfl (by simp [Value.oneCell']) hn hB (fun v' w1 g1 g2 g3 => h v' w1 ⟨?_, ?_, ?_⟩ (fun w hb => below_grown o1 hB hb g2) (grown_bel (Below.alloc (Below.refl _ _) (Nat.le_refl _) _) g2) g3 (by have := g2.size; simpa using this))
  · simpa using own_form g1
  · simpa [cD] using g1
  · intro y hy
    rcases List.mem_append.1 hy with hy | hy
    · exact o2 y hy
    · simp at hy; subst hy; exact ⟨hc, hd⟩
theorem wpList_atT {wr : World} {ops : Array Oper} {rest : List Oper} {o : Oper} {a : Act} {Q : Exit → Act → World → Prop} (hgd : o.guard = none) (s x : Operand) (ho : o.op = .call { callee := .builtin .append, args := #[s, x], argTypes := #[61, 61] })
    (B : Nat) (v : Value) (l : List (Int × Int × Int)) (c d e : Int) (hs : a.eval s = v) (hx : a.eval x = .slice (some ⟨wr.heap.size, 0, none⟩) 1 1) (hown : OwT B wr v l) (hB : B ≤ wr.heap.size) (hn : l.length ≤ 1048576) (hc : I64 c) (hd : I64 d) (he : I64 e)
    (h : ∀ v' w1, OwT B w1 v' (l ++ [(c, d, e)]) → (∀ w, Below B w wr → Below B w w1) → wr.grownBy w1 v.ownBlock → (v'.ownBlock = v.ownBlock ∨ v'.ownBlock = some (wr.heap.size + 1)) → wr.heap.size + 1 ≤ w1.heap.size → wpList Try.prog ops Q rest (a.put o.dst v') w1) :
    wpList Try.prog ops Q (o :: rest) a (wr.alloc (.cells #[.int .i64 c, .int .i64 d, .int .i64 e] 68)) := by
  obtain ⟨_, o1, o2⟩ := hown
  refine append_at (P := Try.prog) hgd s x 61 ho B 68 (.agg #[.int .i64 0, .int .i64 0, .int .i64 0]) 3 24 Try.underlying61 (by kernel_rfl) rfl (by decide) (by decide) v l.length (l.flatMap cT) [.int .i64 c, .int .i64 d, .int .i64 e] hs hx o1 rfl (by simp [Value.oneCell']) hn hB (fun v' w1 g1 g2 g3 => h v' w1 ⟨?_, ?_, ?_⟩ (fun w hb => below_grown o1 hB hb g2) (grown_bel (Below.alloc (Below.refl _ _) (Nat.le_refl _) _) g2) g3 (by have := g2.size; simpa using this))
  · simpa using own_form g1
  · simpa [cT] using g1
  · intro y hy
    rcases List.mem_append.1 hy with hy | hy
    · exact o2 y hy
    · simp at hy; subst hy; exact ⟨hc, hd, he⟩
end Go.Proofs.Ytdcjhfmkkcakhaa

/-
  Slices of slices of the call's own whose members lie in ranges of the heap that do not meet, kept over calls and over writes elsewhere; no statement is proved here; no condition.
-/
import Derived.Test.YtdcjhfmkkcakhaaSlices
namespace Go.Proofs.Ytdcjhfmkkcakhaa
open Go.ChangeShapes Go.WideShapes Go.ChangeAt Go.RowKit Go.Deep
set_option linter.unusedVariables false

/-- only blocks from lo up to hi, and new ones, have turned -/
structure Btw (lo hi : Nat) (w w' : World) : Prop where
  os : w'.os = w.os
  tape : w'.tape = w.tape
  output : w'.output = w.output
  size : w.heap.size ≤ w'.heap.size
  block : ∀ b < w.heap.size, b < lo ∨ hi ≤ b → w'.heap[b]? = w.heap[b]?
theorem Btw.refl (lo hi : Nat) (w : World) : Btw lo hi w w := ⟨rfl, rfl, rfl, Nat.le_refl _, fun _ _ _ => rfl⟩
theorem Btw.trans {lo hi : Nat} {a b c : World} (h : Btw lo hi a b) (k : Btw lo hi b c) : Btw lo hi a c :=
  ⟨k.os.trans h.os, k.tape.trans h.tape, k.output.trans h.output, Nat.le_trans h.size k.size, fun x hx hr => (k.block x (Nat.lt_of_lt_of_le hx h.size) hr).trans (h.block x hx hr)⟩
theorem Btw.mono {lo hi lo' hi' : Nat} {a b : World} (h : Btw lo hi a b) (h1 : lo' ≤ lo) (h2 : hi ≤ hi') : Btw lo' hi' a b := ⟨h.os, h.tape, h.output, h.size, fun x hx hr => h.block x hx (by omega)⟩
theorem Btw.of_grown {lo hi : Nat} {w w' : World} {row : Option Nat} (h : w.grownBy w' row) (hr : ∀ k, row = some k → lo ≤ k ∧ k < hi) : Btw lo hi w w' :=
  ⟨h.os, h.tape, h.output, h.size, fun b hb hx => h.block b hb (fun e => by have := hr b e.symm; omega)⟩
theorem Btw.of_bel {lo hi : Nat} {w w' : World} (h : Below w.heap.size w w') : Btw lo hi w w' := ⟨h.os, h.tape, h.output, h.size, fun b hb _ => h.block b hb⟩
theorem Btw.below {B lo hi : Nat} {a w w' : World} (h : Btw lo hi w w') (hb : Below B a w) (h1 : B ≤ lo) (h2 : B ≤ w.heap.size) : Below B a w' :=
  ⟨h.os.trans hb.os, h.tape.trans hb.tape, h.output.trans hb.output, Nat.le_trans hb.size h.size, fun b hlt => (h.block b (by omega) (by omega)).trans (hb.block b hlt)⟩
theorem Blk.btw {lo hi : Nat} {w w' : World} {g : Nat} {E : TypeId} {xs : List Value} (h : Blk w g E xs) (hb : Btw lo hi w w') (hg : g < lo ∨ hi ≤ g) : Blk w' g E xs := (hb.block g h.lt hg).trans h
theorem ownsRow_loc {w w' : World} {B : Nat} {E : TypeId} {sz : Nat} {v : Value} {n : Nat} {xs : List Value} (h : w.ownsRow B E sz v n xs) (hb : ∀ k, v.ownBlock = some k → k < w.heap.size → w'.heap[k]? = w.heap[k]?) : w'.ownsRow B E sz v n xs := by
  refine ⟨h.1, ?_⟩
  rcases h.2 with h2 | ⟨g, cap, cur, rfl, hB, hg, r⟩
  · exact .inl h2
  · exact .inr ⟨g, cap, cur, rfl, hB, (hb g (by simp [Value.ownBlock]) (Array.getElem?_eq_some_iff.1 hg).1).trans hg, r⟩
theorem Blk.keepT {w w' : World} {g : Nat} {E T : TypeId} {xs : List Value} {row : Option Nat} (h : Blk w g E xs) (hg : w.grownBy w' row) (ht : ∀ k, row = some k → ∃ cur fr, w.heap[k]? = some (.cells cur T fr)) (hne : E ≠ T) : Blk w' g E xs := by
  refine (hg.block g h.lt fun e => ?_).trans h
  obtain ⟨cur, fr, h2⟩ := ht g e.symm
  unfold Blk at h
  rw [h] at h2
  injection h2 with h2
  injection h2 with _ h3
  exact hne h3
/-- two worlds agree on a range of blocks -/
def Same (lo hi : Nat) (w w' : World) : Prop := ∀ b, lo ≤ b → b < hi → b < w.heap.size → w'.heap[b]? = w.heap[b]?
theorem Same.of_bel {lo hi : Nat} {w w' : World} (h : Below w.heap.size w w') : Same lo hi w w' := fun b _ _ hb => h.block b hb
theorem Same.of_btw {lo hi a b : Nat} {w w' : World} (h : Btw a b w w') (hd : hi ≤ a ∨ b ≤ lo) : Same lo hi w w' := fun x h1 h2 hx => h.block x hx (by omega)
theorem Same.of_grown {lo hi : Nat} {w w' : World} {row : Option Nat} (h : w.grownBy w' row) (hd : ∀ k, row = some k → k < lo ∨ hi ≤ k) : Same lo hi w w' := fun x h1 h2 hx => h.block x hx (fun e => by have := hd x e.symm; omega)
theorem Same.mono {lo hi lo' hi' : Nat} {w w' : World} (h : Same lo hi w w') (h1 : lo ≤ lo') (h2 : hi' ≤ hi) : Same lo' hi' w w' := fun x a b c => h x (by omega) (by omega) c
section
variable {α : Type}
structure FamR (I : Nat → Nat → World → Value → α → Prop) : Prop where
  loc : ∀ {lo hi : Nat} {w w' : World} {u : Value} {l : α}, I lo hi w u l → Same lo hi w w' → I lo hi w' u l
  one : ∀ {lo hi : Nat} {w : World} {u : Value} {l : α}, I lo hi w u l → u.oneCell' = true
def Parts (I : Nat → Nat → World → Value → α → Prop) (lo hi : Nat) (w : World) (vs : List Value) (ll : List α) (out : Option Nat) : Prop :=
  vs.length = ll.length ∧ ∃ r : Nat → Nat × Nat, (∀ (i : Nat) (l : α), ll[i]? = some l → ∃ u, vs[i]? = some u ∧ I (r i).1 (r i).2 w u l ∧ lo ≤ (r i).1 ∧ (r i).2 ≤ hi ∧ (∀ k, out = some k → k < (r i).1 ∨ (r i).2 ≤ k)) ∧
    (∀ i j : Nat, i < j → j < ll.length → (r i).2 ≤ (r j).1 ∨ (r j).2 ≤ (r i).1)
variable {I : Nat → Nat → World → Value → α → Prop} {lo hi : Nat} {w w' : World} {vs : List Value} {ll : List α} {out : Option Nat}
theorem Parts.nil_ (I : Nat → Nat → World → Value → α → Prop) (lo hi : Nat) (w : World) (out : Option Nat) : Parts I lo hi w [] [] out := ⟨rfl, fun _ => (0, 0), by simp, by simp⟩
theorem Parts.loc (F : FamR I) (h : Parts I lo hi w vs ll out) (hs : Same lo hi w w') : Parts I lo hi w' vs ll out := by
  obtain ⟨h0, r, h1, h2⟩ := h
  refine ⟨h0, r, fun i l hl => ?_, h2⟩
  obtain ⟨u, hu, hI, a, b, c⟩ := h1 i l hl
  exact ⟨u, hu, F.loc hI (hs.mono a b), a, b, c⟩
theorem Parts.wide (h : Parts I lo hi w vs ll out) {lo' hi' : Nat} (h1 : lo' ≤ lo) (h2 : hi ≤ hi') : Parts I lo' hi' w vs ll out := by
  obtain ⟨h0, r, h3, h4⟩ := h
  refine ⟨h0, r, fun i l hl => ?_, h4⟩
  obtain ⟨u, hu, hI, a, b, c⟩ := h3 i l hl
  exact ⟨u, hu, hI, by omega, by omega, c⟩
theorem Parts.out_ (h : Parts I lo hi w vs ll out) {out' : Option Nat} (ho : out' = out ∨ ∀ k, out' = some k → k < lo ∨ hi ≤ k) : Parts I lo hi w vs ll out' := by
  obtain ⟨h0, r, h3, h4⟩ := h
  refine ⟨h0, r, fun i l hl => ?_, h4⟩
  obtain ⟨u, hu, hI, a, b, c⟩ := h3 i l hl
  refine ⟨u, hu, hI, a, b, fun k hk => ?_⟩
  rcases ho with rfl | ho
  · exact c k hk
  · have := ho k hk; omega
theorem Parts.snoc (h : Parts I lo hi w vs ll out) {a b hi' : Nat} {u : Value} {l : α} (hI : I a b w u l) (h1 : hi ≤ a) (h2 : b ≤ hi') (hl : lo ≤ a) (hh : hi ≤ hi') (ho : ∀ k, out = some k → k < a ∨ b ≤ k) : Parts I lo hi' w (vs ++ [u]) (ll ++ [l]) out := by
  obtain ⟨h0, r, h3, h4⟩ := h
  refine ⟨by simp [h0], fun i => if i < ll.length then r i else (a, b), fun i l' hl' => ?_, fun i j hij hj => ?_⟩
  · by_cases hi0 : i < ll.length
    · rw [List.getElem?_append_left hi0] at hl'
      obtain ⟨u', hu', hI', a', b', c'⟩ := h3 i l' hl'
      refine ⟨u', by rw [List.getElem?_append_left (by omega)]; exact hu', ?_⟩
      simp only [hi0, if_true]
      exact ⟨hI', a', by omega, c'⟩
    · rw [List.getElem?_append_right (by omega)] at hl'
      have hz : i - ll.length = 0 := by
        rcases Nat.eq_zero_or_pos (i - ll.length) with e | e
        · exact e
        · rw [List.getElem?_eq_none (by simp; omega)] at hl'; cases hl'
      rw [hz] at hl'
      obtain rfl : l = l' := by simpa using hl'
      refine ⟨u, by rw [List.getElem?_append_right (by omega), h0, hz]; rfl, ?_⟩
      simp only [hi0, if_false]
      exact ⟨hI, hl, h2, ho⟩
  · by_cases hj0 : j < ll.length
    · have : i < ll.length := by omega
      simp only [this, hj0, if_true]
      exact h4 i j hij hj0
    · have hjl : j = ll.length := by simp at hj; omega
      have hi0 : i < ll.length := by omega
      simp only [hi0, hj0, if_true, if_false]
      obtain ⟨u', hu', hI', a', b', c'⟩ := h3 i ll[i] (List.getElem?_eq_getElem hi0)
      exact .inl (by omega)
/-- one member is written anew, in its own range -/
theorem Parts.set_ (F : FamR I) (h : Parts I lo hi w vs ll out) {i : Nat} {l : α} (hi0 : ll[i]? = some l) :
    ∃ u a b, vs[i]? = some u ∧ I a b w u l ∧ lo ≤ a ∧ b ≤ hi ∧ (∀ k, out = some k → k < a ∨ b ≤ k) ∧ ∀ (w' : World) (l' : α), Btw a b w w' → I a b w' u l' → Parts I lo hi w' vs (ll.set i l') out := by
  obtain ⟨h0, r, h3, h4⟩ := h
  obtain ⟨u, hu, hI, ha, hb, hc⟩ := h3 i l hi0
  have hil : i < ll.length := (List.getElem?_eq_some_iff.1 hi0).1
  refine ⟨u, (r i).1, (r i).2, hu, hI, ha, hb, hc, fun w' l' hB hI' => ⟨by simp [h0], r, fun j m hj => ?_, fun x y hxy hy => h4 x y hxy (by simpa using hy)⟩⟩
  by_cases e : i = j
  · subst e
    rw [List.getElem?_set_self hil] at hj
    injection hj with hj
    subst hj
    exact ⟨u, hu, hI', ha, hb, hc⟩
  · rw [List.getElem?_set_ne e] at hj
    obtain ⟨u', hu', hJ, a', b', c'⟩ := h3 j m hj
    refine ⟨u', hu', F.loc hJ (.of_btw hB ?_), a', b', c'⟩
    have hjl : j < ll.length := (List.getElem?_eq_some_iff.1 hj).1
    rcases Nat.lt_or_gt_of_ne e with hlt | hgt
    · have := h4 i j hlt hjl; omega
    · have := h4 j i hgt hil; omega
/-- a slice of the call's own, its members in ranges -/
def InS (T : TypeId) (I : Nat → Nat → World → Value → α → Prop) (lo hi : Nat) (w : World) (v : Value) (ll : List α) : Prop :=
  (∃ A c, v = .slice A ll.length c) ∧ (∀ k, v.ownBlock = some k → k < hi) ∧ ∃ vs : List Value, w.ownsRow lo T 1 v ll.length vs ∧ Parts I lo hi w vs ll v.ownBlock
variable {T : TypeId} {v : Value}
theorem InS.loc (F : FamR I) (h : InS T I lo hi w v ll) (hs : Same lo hi w w') : InS T I lo hi w' v ll := by
  obtain ⟨h1, h2, vs, h3, h4⟩ := h
  exact ⟨h1, h2, vs, ownsRow_loc h3 (fun k hk hlt => hs k ((h3.lt k hk).1) (h2 k hk) hlt), h4.loc F hs⟩
theorem InS.bel (F : FamR I) (h : InS T I lo hi w v ll) (hb : Below w.heap.size w w') : InS T I lo hi w' v ll := h.loc F (.of_bel hb)
theorem InS.rng (h : InS T I lo hi w v ll) : ∀ k, v.ownBlock = some k → lo ≤ k ∧ k < hi := by
  obtain ⟨h1, h2, vs, h3, h4⟩ := h
  exact fun k hk => ⟨(h3.lt k hk).1, h2 k hk⟩
theorem InS.form (h : InS T I lo hi w v ll) : ∃ A c, v = .slice A ll.length c := h.1
theorem InS.len {A : Option Addr} {n c : Nat} (h : InS T I lo hi w (.slice A n c) ll) : n = ll.length := by obtain ⟨⟨A', c', e⟩, _⟩ := h; injection e
theorem InS.nil_ (T : TypeId) (I : Nat → Nat → World → Value → α → Prop) (lo hi : Nat) (w : World) : InS T I lo hi w (.slice none 0 0) [] :=
  ⟨⟨_, _, rfl⟩, by simp [Value.ownBlock], [], World.ownsRow_nil _ _ _ _, Parts.nil_ ..⟩
theorem InS.new_ (T : TypeId) (I : Nat → Nat → World → Value → α → Prop) {lo hi : Nat} {w : World} (hB : lo ≤ w.heap.size) (hh : w.heap.size < hi) : InS T I lo hi (w.alloc (.cells #[] T)) (.slice (some ⟨w.heap.size, 0, none⟩) 0 0) [] :=
  ⟨⟨_, _, rfl⟩, by simp [Value.ownBlock]; omega, [], World.ownsRow_made w #[] 0 hB (by simp [maxLen]) (by simp), Parts.nil_ ..⟩
theorem InS.wide (h : InS T I lo hi w v ll) {lo' hi' : Nat} (h1 : lo' ≤ lo) (h2 : hi ≤ hi') : InS T I lo' hi' w v ll := by
  obtain ⟨a, b, vs, c, d⟩ := h
  exact ⟨a, fun k hk => by have := b k hk; omega, vs, ownsRow_mono c h1, d.wide h1 h2⟩
theorem InS.rd {R : World → Option Addr → α → Prop} {len : α → Nat} {A : Option Addr} {n c : Nat} (hO : ∀ {a b : Nat} {u : Value} {l : α}, I a b w u l → ∃ A c, u = .slice A (len l) c ∧ R w A l) (h : InS T I lo hi w (.slice A n c) ll) : RdS R len w A ll := by
  obtain ⟨⟨A', c', e⟩, _, vs, h1, h0, r, h2, _⟩ := h
  injection e with e1 e2 e3
  subst e2
  refine ⟨vs, Rd.of_own h1, fun i l hl => ?_⟩
  obtain ⟨u, hu, ho, _⟩ := h2 i l hl
  obtain ⟨A'', c'', rfl, hR⟩ := hO ho
  exact ⟨A'', c'', hu, hR⟩
/-- an append's outcome: one member more, whose range lies behind all others -/
theorem InS.snoc (F : FamR I) {w1 : World} {v' u : Value} {vs : List Value} {l : α} {a b : Nat} (h2 : ∀ k, v.ownBlock = some k → k < hi) (h4 : Parts I lo hi w vs ll v.ownBlock) (hI : I a b w u l) (hia : hi ≤ a) (hla : lo ≤ a) (hab : a ≤ b) (hbw : b ≤ w.heap.size)
    (g1 : w1.ownsRow lo T 1 v' (ll.length + 1) (vs ++ [u])) (g2 : w.grownBy w1 v.ownBlock) (g3 : v'.ownBlock = v.ownBlock ∨ ∀ k, v'.ownBlock = some k → w.heap.size ≤ k) : InS T I lo w1.heap.size w1 v' (ll ++ [l]) := by
  have hno : ∀ k, v.ownBlock = some k → k < a ∨ b ≤ k := fun k hk => by have := h2 k hk; omega
  have P := (h4.snoc hI hia (Nat.le_refl b) hla (by omega) hno)
  obtain ⟨h0, r, h3, h5⟩ := P
  refine ⟨by simpa using own_form g1, fun k hk => (g1.lt k hk).2, vs ++ [u], by simpa using g1, h0, r, fun i l' hl' => ?_, h5⟩
  obtain ⟨u', hu', hI', a', b', c'⟩ := h3 i l' hl'
  refine ⟨u', hu', F.loc hI' (.of_grown g2 c'), a', by have := g2.size; omega, fun k hk => ?_⟩
  rcases g3 with g3 | g3
  · rw [g3] at hk; exact c' k hk
  · have := g3 k hk; omega
/-- a slice of the call's own from lo on, its members in ranges from lo2 on -/
def InS2 (T : TypeId) (I : Nat → Nat → World → Value → α → Prop) (lo lo2 hi : Nat) (w : World) (v : Value) (ll : List α) : Prop :=
  (∃ A c, v = .slice A ll.length c) ∧ (∀ k, v.ownBlock = some k → k < hi) ∧ ∃ vs : List Value, w.ownsRow lo T 1 v ll.length vs ∧ Parts I lo2 hi w vs ll v.ownBlock
theorem InS2.inS {lo2 : Nat} (h : InS2 T I lo lo2 hi w v ll) (h1 : lo ≤ lo2) : InS T I lo hi w v ll := by
  obtain ⟨a, b, vs, c, d⟩ := h
  exact ⟨a, b, vs, c, d.wide h1 (Nat.le_refl _)⟩
theorem InS2.new_ (T : TypeId) (I : Nat → Nat → World → Value → α → Prop) {lo lo2 hi : Nat} {w : World} (hB : lo ≤ w.heap.size) (hh : w.heap.size < hi) : InS2 T I lo lo2 hi (w.alloc (.cells #[] T)) (.slice (some ⟨w.heap.size, 0, none⟩) 0 0) [] :=
  ⟨⟨_, _, rfl⟩, by simp [Value.ownBlock]; omega, [], World.ownsRow_made w #[] 0 hB (by simp [maxLen]) (by simp), Parts.nil_ ..⟩
theorem InS2.far (F : FamR I) {lo2 : Nat} (h : InS2 T I lo lo2 hi w v ll) (ho : ∀ k, v.ownBlock = some k → k < w.heap.size → w'.heap[k]? = w.heap[k]?) (hs : Same lo2 hi w w') : InS2 T I lo lo2 hi w' v ll := by
  obtain ⟨h1, h2, vs, h3, h4⟩ := h
  exact ⟨h1, h2, vs, ownsRow_loc h3 ho, h4.loc F hs⟩
theorem InS2.bel (F : FamR I) {lo2 : Nat} (h : InS2 T I lo lo2 hi w v ll) (hb : Below w.heap.size w w') : InS2 T I lo lo2 hi w' v ll := h.far F (fun k _ hk => hb.block k hk) (.of_bel hb)
theorem InS2.belhi (F : FamR I) {lo2 : Nat} (h : InS2 T I lo lo2 hi w v ll) (hb : Below hi w w') : InS2 T I lo lo2 hi w' v ll := h.far F (fun k hk _ => hb.block k (h.2.1 k hk)) (fun b _ h2 _ => hb.block b h2)
theorem InS2.wide {lo2 hi' : Nat} (h : InS2 T I lo lo2 hi w v ll) (h2 : hi ≤ hi') : InS2 T I lo lo2 hi' w v ll := by
  obtain ⟨a, b, vs, c, d⟩ := h
  exact ⟨a, fun k hk => by have := b k hk; omega, vs, c, d.wide (Nat.le_refl _) h2⟩
theorem InS2.set_ (F : FamR I) {lo2 : Nat} (h : InS2 T I lo lo2 hi w v ll) {g i : Nat} {E : TypeId} {xs : List Value} (hb : Blk w g E xs) (hne : E ≠ T) (hg : g < lo2) (u : Value) : InS2 T I lo lo2 hi (w.setCell ⟨g, i, none⟩ u) v ll := by
  have ht : ∀ k, v.ownBlock = some k → k ≠ g := by
    obtain ⟨_, _, vs, h3, _⟩ := h
    rintro k hk rfl
    obtain ⟨cur, fr, h2⟩ := own_typ h3 k hk
    unfold Blk at hb
    rw [hb] at h2
    injection h2 with h2
    injection h2 with _ h2
    exact hne h2
  exact h.far F (fun k hk _ => Below.heap_setCell w ⟨g, i, none⟩ u k (ht k hk)) (fun b h1 _ _ => Below.heap_setCell w ⟨g, i, none⟩ u b (by show b ≠ g; omega))
theorem InS2.snoc (F : FamR I) {lo2 : Nat} {w1 : World} {v' u : Value} {vs : List Value} {l : α} {a b : Nat} (h2 : ∀ k, v.ownBlock = some k → k < hi) (h4 : Parts I lo2 hi w vs ll v.ownBlock) (hI : I a b w u l) (hia : hi ≤ a) (hla : lo2 ≤ a) (hab : a ≤ b) (hbw : b ≤ w.heap.size)
    (g1 : w1.ownsRow lo T 1 v' (ll.length + 1) (vs ++ [u])) (g2 : w.grownBy w1 v.ownBlock) (g3 : v'.ownBlock = v.ownBlock ∨ ∀ k, v'.ownBlock = some k → w.heap.size ≤ k) : InS2 T I lo lo2 w1.heap.size w1 v' (ll ++ [l]) := by
  have hno : ∀ k, v.ownBlock = some k → k < a ∨ b ≤ k := fun k hk => by have := h2 k hk; omega
  have P := (h4.snoc hI hia (Nat.le_refl b) hla (by omega) hno)
  obtain ⟨h0, r, h3, h5⟩ := P
  refine ⟨by simpa using own_form g1, fun k hk => (g1.lt k hk).2, vs ++ [u], by simpa using g1, h0, r, fun i l' hl' => ?_, h5⟩
  obtain ⟨u', hu', hI', a', b', c'⟩ := h3 i l' hl'
  refine ⟨u', hu', F.loc hI' (.of_grown g2 c'), a', by have := g2.size; omega, fun k hk => ?_⟩
  rcases g3 with g3 | g3
  · rw [g3] at hk; exact c' k hk
  · have := g3 k hk; omega
end
theorem famR_I : FamR InI where
  loc h hs := ⟨⟨h.1.1, ownsRow_loc h.1.2.1 (fun k hk hlt => hs k ((h.1.2.1.lt k hk).1) (h.2 k hk) hlt), h.1.2.2⟩, h.2⟩
  one h := by obtain ⟨⟨A, c, rfl⟩, _⟩ := h.1; rfl
def InII := InS 24 InI
theorem InII.bel {lo hi : Nat} {w w' : World} {v : Value} {ll : List (List Int)} (h : InII lo hi w v ll) (hb : Below w.heap.size w w') : InII lo hi w' v ll := InS.bel famR_I h hb
theorem InII.rd {lo hi : Nat} {w : World} {A : Option Addr} {n c : Nat} {ll : List (List Int)} (h : InII lo hi w (.slice A n c) ll) : RdII w A ll :=
  InS.rd (fun h => by obtain ⟨A, c, rfl⟩ := h.1.1; exact ⟨A, c, rfl, h.rd⟩) h
theorem InII.loc {lo hi : Nat} {w w' : World} {v : Value} {ll : List (List Int)} (h : InII lo hi w v ll) (hb : Same lo hi w w') : InII lo hi w' v ll := InS.loc famR_I h hb
theorem InII.wide {lo hi lo' hi' : Nat} {w : World} {v : Value} {ll : List (List Int)} (h : InII lo hi w v ll) (h1 : lo' ≤ lo) (h2 : hi ≤ hi') : InII lo' hi' w v ll := InS.wide h h1 h2
theorem InII.form {lo hi : Nat} {w : World} {v : Value} {ll : List (List Int)} (h : InII lo hi w v ll) : ∃ A c, v = .slice A ll.length c := h.1
theorem InII.own {lo hi : Nat} {w : World} {v : Value} {ll : List (List Int)} (h : InII lo hi w v ll) : OwII lo w v ll := by
  obtain ⟨a, b, vs, c, d, r, e, f⟩ := h
  refine ⟨a, vs, c, fun i l hl => ?_⟩
  obtain ⟨u, hu, hI, _⟩ := e i l hl
  exact ⟨u, hu, hI.1.mono (Nat.zero_le _)⟩
theorem OwI.inn {lo : Nat} {w : World} {v : Value} {l : List Int} (h : OwI lo w v l) : InI lo w.heap.size w v l := ⟨h, fun k hk => (h.2.1.lt k hk).2⟩
theorem wpList_apInII {wr : World} {ops : Array Oper} {rest : List Oper} {o : Oper} {a : Act} {Q : Exit → Act → World → Prop} (hgd : o.guard = none) (s x : Operand) (ho : o.op = .call { callee := .builtin .append, args := #[s, x], argTypes := #[76, 76] })
    (lo hi : Nat) (v : Value) (ll : List (List Int)) (u : Value) (l : List Int) (a' b' : Nat) (hs : a.eval s = v) (hx : a.eval x = .slice (some ⟨wr.heap.size, 0, none⟩) 1 1) (hown : InII lo hi wr v ll) (hu : InI a' b' wr u l) (hia : hi ≤ a') (hla : lo ≤ hi) (hab : a' ≤ b') (hbw : b' ≤ wr.heap.size) (hn : ll.length ≤ 1048576)
    (h : ∀ A' L c' w1, Hid (L = (ll ++ [l]).length) → InII lo w1.heap.size w1 (.slice A' L c') (ll ++ [l]) → (∀ w, Below lo w wr → Below lo w w1) → wr.grownBy w1 v.ownBlock → wr.heap.size + 1 ≤ w1.heap.size → wpList Try.prog ops Q rest (a.put o.dst (.slice A' L c')) w1) :
    wpList Try.prog ops Q (o :: rest) a (wr.alloc (.cells #[u] 24)) := by
  obtain ⟨_, h2, vs, o1, o2⟩ := hown
  have hal : Below wr.heap.size wr (wr.alloc (.cells #[u] 24)) := Below.alloc (Below.refl _ _) (Nat.le_refl _) _
  refine append_at (P := Try.prog) hgd s x 76 ho lo 24 (.slice none 0 0) 1 24 Try.underlying76 (by kernel_rfl) rfl (by decide) (by decide) v ll.length vs [u] hs hx o1 rfl (by intro y hy; simp at hy; subst hy; exact famR_I.one hu) hn (by omega) (fun v' w1 g1 g2 g3 => ?_)
  have g2' := grown_bel hal g2
  obtain ⟨A', c', rfl⟩ := own_form g1
  have := InS.snoc (T := 24) (I := InI) famR_I (lo := lo) (ll := ll) (w := wr) h2 o2 hu hia (by omega) hab hbw g1 g2' (by rcases g3 with g3 | g3; exact .inl g3; exact .inr (fun k hk => by rw [hk] at g3; injection g3; omega))
  rw [show ll.length + 1 = (ll ++ [l]).length by simp] at this ⊢
  exact h A' _ c' w1 (Lib.hid rfl) this (fun w hb => below_grown o1 (by omega) hb g2) g2' (by have := g2.size; simpa using this)
theorem wpList_apIn2 {wr : World} {ops : Array Oper} {rest : List Oper} {o : Oper} {a : Act} {Q : Exit → Act → World → Prop} (hgd : o.guard = none) (s x : Operand) (ho : o.op = .call { callee := .builtin .append, args := #[s, x], argTypes := #[76, 76] })
    (lo lo2 hi : Nat) (v : Value) (ll : List (List Int)) (u : Value) (l : List Int) (a' b' : Nat) (hs : a.eval s = v) (hx : a.eval x = .slice (some ⟨wr.heap.size, 0, none⟩) 1 1) (hown : InS2 24 InI lo lo2 hi wr v ll) (hu : InI a' b' wr u l) (hia : hi ≤ a') (hla : lo ≤ hi) (hl2 : lo2 ≤ hi) (hab : a' ≤ b') (hbw : b' ≤ wr.heap.size) (hn : ll.length ≤ 1048576)
    (h : ∀ A' L c' w1, Hid (L = (ll ++ [l]).length) → InS2 24 InI lo lo2 w1.heap.size w1 (.slice A' L c') (ll ++ [l]) → (∀ w, Below lo w wr → Below lo w w1) → wr.grownBy w1 v.ownBlock → wr.heap.size + 1 ≤ w1.heap.size → wpList Try.prog ops Q rest (a.put o.dst (.slice A' L c')) w1) :
    wpList Try.prog ops Q (o :: rest) a (wr.alloc (.cells #[u] 24)) := by
  obtain ⟨_, h2, vs, o1, o2⟩ := hown
  have hal : Below wr.heap.size wr (wr.alloc (.cells #[u] 24)) := Below.alloc (Below.refl _ _) (Nat.le_refl _) _
  refine append_at (P := Try.prog) hgd s x 76 ho lo 24 (.slice none 0 0) 1 24 Try.underlying76 (by kernel_rfl) rfl (by decide) (by decide) v ll.length vs [u] hs hx o1 rfl (by intro y hy; simp at hy; subst hy; exact famR_I.one hu) hn (by omega) (fun v' w1 g1 g2 g3 => ?_)
  have g2' := grown_bel hal g2
  obtain ⟨A', c', rfl⟩ := own_form g1
  have := InS2.snoc (T := 24) (I := InI) famR_I (lo := lo) (ll := ll) (w := wr) h2 o2 hu hia (by omega) hab hbw g1 g2' (by rcases g3 with g3 | g3; exact .inl g3; exact .inr (fun k hk => by rw [hk] at g3; injection g3; omega))
  rw [show ll.length + 1 = (ll ++ [l]).length by simp] at this ⊢
  exact h A' _ c' w1 (Lib.hid rfl) this (fun w hb => below_grown o1 (by omega) hb g2) g2' (by have := g2.size; simpa using this)
theorem InS2.typ {lo lo2 hi : Nat} {w : World} {v : Value} {ll : List (List Int)} (h : InS2 24 InI lo lo2 hi w v ll) : ∀ k, v.ownBlock = some k → ∃ cur fr, w.heap[k]? = some (.cells cur 24 fr) := by
  obtain ⟨_, _, vs, h3, _⟩ := h
  exact own_typ h3
end Go.Proofs.Ytdcjhfmkkcakhaa

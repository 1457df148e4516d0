/-
  Slices of slices: one that reads as a list of lists, one that a call made itself, one law on append for each; no statement is proved here; at most 1048576 elements.
-/
import Derived.Test.YthclolooidnniaaApp
namespace Go.Proofs.Ythclolooidnniaa
open Go.ChangeShapes Go.WideShapes Go.ChangeAt Go.RowKit Go.Deep
set_option linter.unusedVariables false

section
variable {α : Type}
/-- a slice whose elements are slices that read as the members of a list -/
def RdS (R : World → Option Addr → α → Prop) (len : α → Nat) (w : World) (A : Option Addr) (ll : List α) : Prop :=
  ∃ vs : List Value, Rd w 1 A ll.length vs ∧ ∀ (i : Nat) (l : α), ll[i]? = some l → ∃ A' c, vs[i]? = some (Value.slice A' (len l) c) ∧ R w A' l
theorem RdS.at_ {R : World → Option Addr → α → Prop} {len : α → Nat} {w : World} {A : Option Addr} {ll : List α} (h : RdS R len w A ll) {k : Nat} (hk : k < ll.length) :
    ∃ b off l A' c, A = some ⟨b, off, none⟩ ∧ b < w.heap.size ∧ ll[k]? = some l ∧ ll.drop k = l :: ll.drop (k + 1) ∧ R w A' l ∧ w.cell? ⟨b, off + k, none⟩ = some (.slice A' (len l) c) := by
  obtain ⟨vs, hr, he⟩ := h
  obtain ⟨b, off, e, hlt, hc⟩ := hr.2 (by omega)
  have hx : ll[k]? = some ll[k] := List.getElem?_eq_getElem hk
  obtain ⟨A', c, hv, hR⟩ := he k _ hx
  exact ⟨b, off, ll[k], A', c, e, hlt, hx, drop_at hx, hR, hc k _ hv⟩
theorem RdS.below {R : World → Option Addr → α → Prop} {len : α → Nat} {w w' : World} {A : Option Addr} {ll : List α} (hR : ∀ {A : Option Addr} {l : α}, R w A l → R w' A l) (h : RdS R len w A ll) (hb : Below w.heap.size w w') : RdS R len w' A ll := by
  obtain ⟨vs, hr, he⟩ := h
  exact ⟨vs, hr.below hb, fun i l hl => by obtain ⟨A', c, hv, hR'⟩ := he i l hl; exact ⟨A', c, hv, hR hR'⟩⟩

/-- what a predicate on the elements of a slice of type T must bear: blocks of another type may turn -/
structure Fam (T : TypeId) (O : World → Value → α → Prop) : Prop where
  bel : ∀ {w w' : World} {u : Value} {l : α}, O w u l → Below w.heap.size w w' → O w' u l
  far : ∀ {w w' : World} {g : Option Nat} {u : Value} {l : α}, O w u l → w.grownBy w' g → (∀ k, g = some k → ∃ cur fr, w.heap[k]? = some (.cells cur T fr)) → O w' u l
  one : ∀ {w : World} {u : Value} {l : α}, O w u l → u.oneCell' = true
/-- a slice that the call made, of type T's elements, each of which is as O says -/
def OwS (T : TypeId) (O : World → Value → α → Prop) (B : Nat) (w : World) (v : Value) (ll : List α) : Prop :=
  (∃ A c, v = .slice A ll.length c) ∧ ∃ vs : List Value, w.ownsRow B T 1 v ll.length vs ∧ ∀ (i : Nat) (l : α), ll[i]? = some l → ∃ u, vs[i]? = some u ∧ O w u l
theorem own_typ {w : World} {B : Nat} {E : TypeId} {sz : Nat} {v : Value} {n : Nat} {xs : List Value} (h : w.ownsRow B E sz v n xs) : ∀ k, v.ownBlock = some k → ∃ cur fr, w.heap[k]? = some (.cells cur E fr) := by
  intro k hk
  rcases h.2 with ⟨rfl, _⟩ | ⟨g, cap, cur, rfl, _, hg, _⟩
  · simp [Value.ownBlock] at hk
  · have : g = k := by simpa [Value.ownBlock] using hk
    subst this
    exact ⟨_, _, hg⟩
theorem own_apart {w : World} {B : Nat} {E T : TypeId} {sz : Nat} {v : Value} {n : Nat} {xs : List Value} {g : Option Nat} (h : w.ownsRow B E sz v n xs) (hne : E ≠ T) (hg : ∀ k, g = some k → ∃ cur fr, w.heap[k]? = some (.cells cur T fr)) : v.ownBlock = none ∨ v.ownBlock ≠ g := by
  cases hv : v.ownBlock with
  | none => exact .inl rfl
  | some k =>
    refine .inr fun e => ?_
    obtain ⟨cur, fr, h1⟩ := own_typ h k hv
    obtain ⟨cur', fr', h2⟩ := hg k e.symm
    rw [h1] at h2
    injection h2 with h2
    injection h2 with _ h3
    exact hne h3
variable {T : TypeId} {O : World → Value → α → Prop} {B : Nat} {w w' : World} {v : Value} {ll : List α}
theorem OwS.bel (F : Fam T O) (h : OwS T O B w v ll) (hb : Below w.heap.size w w') : OwS T O B w' v ll := by
  obtain ⟨hf, vs, h1, h2⟩ := h
  exact ⟨hf, vs, ownsRow_bel h1 hb, fun i l hl => by obtain ⟨u, hu, ho⟩ := h2 i l hl; exact ⟨u, hu, F.bel ho hb⟩⟩
theorem OwS.mono {B' : Nat} (h : OwS T O B w v ll) (hB : B' ≤ B) : OwS T O B' w v ll := by
  obtain ⟨hf, vs, h1, h2⟩ := h
  exact ⟨hf, vs, ownsRow_mono h1 hB, h2⟩
theorem OwS.nil_ (T : TypeId) (O : World → Value → α → Prop) (B : Nat) (w : World) : OwS T O B w (.slice none 0 0) [] := ⟨⟨_, _, rfl⟩, [], World.ownsRow_nil _ _ _ _, by simp⟩
theorem OwS.new_ (T : TypeId) (O : World → Value → α → Prop) {B : Nat} {w : World} (hB : B ≤ w.heap.size) : OwS T O B (w.alloc (.cells #[] T)) (.slice (some ⟨w.heap.size, 0, none⟩) 0 0) [] :=
  ⟨⟨_, _, rfl⟩, [], World.ownsRow_made w #[] 0 hB (by simp [maxLen]) (by simp), by simp⟩
theorem OwS.rd {R : World → Option Addr → α → Prop} {len : α → Nat} {A : Option Addr} {n c : Nat} (hO : ∀ {u : Value} {l : α}, O w u l → ∃ A c, u = .slice A (len l) c ∧ R w A l) (h : OwS T O B w (.slice A n c) ll) : RdS R len w A ll := by
  obtain ⟨⟨A', c', e⟩, vs, h1, h2⟩ := h
  injection e with e1 e2 e3
  subst e2
  refine ⟨vs, Rd.of_own h1, fun i l hl => ?_⟩
  obtain ⟨u, hu, ho⟩ := h2 i l hl
  obtain ⟨A'', c'', rfl, hR⟩ := hO ho
  exact ⟨A'', c'', hu, hR⟩
theorem OwS.rng (h : OwS T O B w v ll) : ∀ k, v.ownBlock = some k → B ≤ k ∧ k < w.heap.size := by
  obtain ⟨hf, vs, h1, h2⟩ := h
  exact fun k hk => h1.lt k hk
theorem OwS.typ (h : OwS T O B w v ll) : ∀ k, v.ownBlock = some k → ∃ cur fr, w.heap[k]? = some (.cells cur T fr) := by
  obtain ⟨hf, vs, h1, h2⟩ := h
  exact own_typ h1
theorem OwS.len {A : Option Addr} {n c : Nat} (h : OwS T O B w (.slice A n c) ll) : n = ll.length := by obtain ⟨⟨A', c', e⟩, _⟩ := h; injection e
theorem OwS.snoc (F : Fam T O) {w1 : World} {v' : Value} {vs : List Value} {u : Value} {l : α} {row : Option Nat} (h : ∀ (i : Nat) (l : α), ll[i]? = some l → ∃ u, vs[i]? = some u ∧ O w u l) (hl : vs.length = ll.length) (ho : O w u l)
    (g1 : w1.ownsRow B T 1 v' (ll.length + 1) (vs ++ [u])) (g2 : w.grownBy w1 row) (ht : ∀ k, row = some k → ∃ cur fr, w.heap[k]? = some (.cells cur T fr)) : OwS T O B w1 v' (ll ++ [l]) := by
  refine ⟨by simpa using own_form g1, vs ++ [u], by simpa using g1, fun i l' hl' => ?_⟩
  by_cases hi : i < ll.length
  · rw [List.getElem?_append_left hi] at hl'
    obtain ⟨u', hu', ho'⟩ := h i l' hl'
    exact ⟨u', by rw [List.getElem?_append_left (by omega)]; exact hu', F.far ho' g2 ht⟩
  · rw [List.getElem?_append_right (by omega)] at hl'
    have hi0 : i - ll.length = 0 := by
      rcases Nat.eq_zero_or_pos (i - ll.length) with h0 | h0
      · exact h0
      · rw [List.getElem?_eq_none (by simp; omega)] at hl'; cases hl'
    rw [hi0] at hl'
    obtain rfl : l = l' := by simpa using hl'
    exact ⟨u, by rw [List.getElem?_append_right (by omega), hl, hi0]; rfl, F.far ho g2 ht⟩
theorem OwS.app (F : Fam T O) {w1 : World} {v' : Value} {vs us : List Value} {mm : List α} {row : Option Nat} (h : ∀ (i : Nat) (l : α), ll[i]? = some l → ∃ u, vs[i]? = some u ∧ O w u l) (hl : vs.length = ll.length) (ho : ∀ (i : Nat) (l : α), mm[i]? = some l → ∃ u, us[i]? = some u ∧ O w u l)
    (g1 : w1.ownsRow B T 1 v' (ll.length + mm.length) (vs ++ us)) (g2 : w.grownBy w1 row) (ht : ∀ k, row = some k → ∃ cur fr, w.heap[k]? = some (.cells cur T fr)) : OwS T O B w1 v' (ll ++ mm) := by
  refine ⟨by simpa using own_form g1, vs ++ us, by simpa using g1, fun i l' hl' => ?_⟩
  by_cases hi : i < ll.length
  · rw [List.getElem?_append_left hi] at hl'
    obtain ⟨u', hu', ho'⟩ := h i l' hl'
    exact ⟨u', by rw [List.getElem?_append_left (by omega)]; exact hu', F.far ho' g2 ht⟩
  · rw [List.getElem?_append_right (by omega)] at hl'
    obtain ⟨u', hu', ho'⟩ := ho _ l' hl'
    exact ⟨u', by rw [List.getElem?_append_right (by omega), hl]; exact hu', F.far ho' g2 ht⟩
end
end Go.Proofs.Ythclolooidnniaa

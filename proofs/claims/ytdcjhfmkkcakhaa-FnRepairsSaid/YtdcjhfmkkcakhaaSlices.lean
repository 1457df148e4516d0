/-
  Slices of slices: one that reads as a list of lists, one that a call made itself, one law on append for each; no statement is proved here; at most 1048576 elements.
-/
import Derived.Test.YtdcjhfmkkcakhaaApp
namespace Go.Proofs.Ytdcjhfmkkcakhaa
open Go.ChangeShapes Go.WideShapes Go.ChangeAt Go.RowKit Go.Deep
set_option linter.unusedVariables false

section
variable {α : Type}
/-- a slice whose elements are slices that read as the members of a list -/
def RdS (R : World → Option Addr → α → Prop) (len : α → Nat) (w : World) (A : Option Addr) (ll : List α) : Prop :=
  ∃ vs : List Value, Rd w 1 A ll.length vs ∧ ∀ (i : Nat) (l : α), ll[i]? = some l → ∃ A' c, vs[i]? = some (Value.slice A' (len l) c) ∧ R w A' l
theorem RdS.at_ {R : World → Option Addr → α → Prop} {len : α → Nat} {w : World} {A : Option Addr} {ll : List α} (h : RdS R len w A ll) {k : Nat} (hk : k < ll.length) :
    ∃ b off l A' c, A = some ⟨b, off, none⟩ ∧ b < w.heap.size ∧ ll[k]? = some l ∧ ll.drop k = l :: ll.drop (k + 1) ∧ R w A' l ∧ w.cell? ⟨b, off + k, none⟩ = some (.slice A' (len l) c) := by
  obtain ⟨vs, hr, he⟩ := h
  obtain ⟨b, off, e, hlt, hc⟩ := hr.2 (by omega)
  have hx : ll[k]? = some ll[k] := List.getElem?_eq_getElem hk
  obtain ⟨A', c, hv, hR⟩ := he k _ hx
  exact ⟨b, off, ll[k], A', c, e, hlt, hx, drop_at hx, hR, hc k _ hv⟩
theorem RdS.below {R : World → Option Addr → α → Prop} {len : α → Nat} {w w' : World} {A : Option Addr} {ll : List α} (hR : ∀ {A : Option Addr} {l : α}, R w A l → R w' A l) (h : RdS R len w A ll) (hb : Below w.heap.size w w') : RdS R len w' A ll := by
  obtain ⟨vs, hr, he⟩ := h
  exact ⟨vs, hr.below hb, fun i l hl => by obtain ⟨A', c, hv, hR'⟩ := he i l hl; exact ⟨A', c, hv, hR hR'⟩⟩

/-- what a predicate on the elements of a slice of type T must bear: blocks of another type may turn -/
structure Fam (T : TypeId) (O : World → Value → α → Prop) : Prop where
  bel : ∀ {w w' : World} {u : Value} {l : α}, O w u l → Below w.heap.size w w' → O w' u l
  far : ∀ {w w' : World} {g : Option Nat} {u : Value} {l : α}, O w u l → w.grownBy w' g → (∀ k, g = some k → ∃ cur fr, w.heap[k]? = some (.cells cur T fr)) → O w' u l
  one : ∀ {w : World} {u : Value} {l : α}, O w u l → u.oneCell' = true
/-- a slice that the call made, of type T's elements, each of which is as O says -/
def OwS (T : TypeId) (O : World → Value → α → Prop) (B : Nat) (w : World) (v : Value) (ll : List α) : Prop :=
  (∃ A c, v = .slice A ll.length c) ∧ ∃ vs : List Value, w.ownsRow B T 1 v ll.length vs ∧ ∀ (i : Nat) (l : α), ll[i]? = some l → ∃ u, vs[i]? = some u ∧ O w u l
theorem own_typ {w : World} {B : Nat} {E : TypeId} {sz : Nat} {v : Value} {n : Nat} {xs : List Value} (h : w.ownsRow B E sz v n xs) : ∀ k, v.ownBlock = some k → ∃ cur fr, w.heap[k]? = some (.cells cur E fr) := by
  intro k hk
  rcases h.2 with ⟨rfl, _⟩ | ⟨g, cap, cur, rfl, _, hg, _⟩
  · simp [Value.ownBlock] at hk
  · have : g = k := by simpa [Value.ownBlock] using hk
    subst this
    exact ⟨_, _, hg⟩
theorem own_apart {w : World} {B : Nat} {E T : TypeId} {sz : Nat} {v : Value} {n : Nat} {xs : List Value} {g : Option Nat} (h : w.ownsRow B E sz v n xs) (hne : E ≠ T) (hg : ∀ k, g = some k → ∃ cur fr, w.heap[k]? = some (.cells cur T fr)) : v.ownBlock = none ∨ v.ownBlock ≠ g := by
  cases hv : v.ownBlock with
  | none => exact .inl rfl
  | some k =>
    refine .inr fun e => ?_
    obtain ⟨cur, fr, h1⟩ := own_typ h k hv
    obtain ⟨cur', fr', h2⟩ := hg k e.symm
    rw [h1] at h2
    injection h2 with h2
    injection h2 with _ h3
    exact hne h3
variable {T : TypeId} {O : World → Value → α → Prop} {B : Nat} {w w' : World} {v : Value} {ll : List α}
theorem OwS.bel (F : Fam T O) (h : OwS T O B w v ll) (hb : Below w.heap.size w w') : OwS T O B w' v ll := by
  obtain ⟨hf, vs, h1, h2⟩ := h
  exact ⟨hf, vs, ownsRow_bel h1 hb, fun i l hl => by obtain ⟨u, hu, ho⟩ := h2 i l hl; exact ⟨u, hu, F.bel ho hb⟩⟩
theorem OwS.mono {B' : Nat} (h : OwS T O B w v ll) (hB : B' ≤ B) : OwS T O B' w v ll := by
  obtain ⟨hf, vs, h1, h2⟩ := h
  exact ⟨hf, vs, ownsRow_mono h1 hB, h2⟩
theorem OwS.nil_ (T : TypeId) (O : World → Value → α → Prop) (B : Nat) (w : World) : OwS T O B w (.slice none 0 0) [] := ⟨⟨_, _, rfl⟩, [], World.ownsRow_nil _ _ _ _, by simp⟩
theorem OwS.new_ (T : TypeId) (O : World → Value → α → Prop) {B : Nat} {w : World} (hB : B ≤ w.heap.size) : OwS T O B (w.alloc (.cells #[] T)) (.slice (some ⟨w.heap.size, 0, none⟩) 0 0) [] :=
  ⟨⟨_, _, rfl⟩, [], World.ownsRow_made w #[] 0 hB (by simp [maxLen]) (by simp), by simp⟩
theorem OwS.rd {R : World → Option Addr → α → Prop} {len : α → Nat} {A : Option Addr} {n c : Nat} (hO : ∀ {u : Value} {l : α}, O w u l → ∃ A c, u = .slice A (len l) c ∧ R w A l) (h : OwS T O B w (.slice A n c) ll) : RdS R len w A ll := by
  obtain ⟨⟨A', c', e⟩, vs, h1, h2⟩ := h
  injection e with e1 e2 e3
  subst e2
  refine ⟨vs, Rd.of_own h1, fun i l hl => ?_⟩
  obtain ⟨u, hu, ho⟩ := h2 i l hl
  obtain ⟨A'', c'', rfl, hR⟩ := hO ho
  exact ⟨A'', c'', hu, hR⟩
theorem OwS.rng (h : OwS T O B w v ll) : ∀ k, v.ownBlock = some k → B ≤ k ∧ k < w.heap.size := by
  obtain ⟨hf, vs, h1, h2⟩ := h
  exact fun k hk => h1.lt k hk
theorem OwS.typ (h : OwS T O B w v ll) : ∀ k, v.ownBlock = some k → ∃ cur fr, w.heap[k]? = some (.cells cur T fr) := by
  obtain ⟨hf, vs, h1, h2⟩ := h
  exact own_typ h1
theorem OwS.len {A : Option Addr} {n c : Nat} (h : OwS T O B w (.slice A n c) ll) : n = ll.length := by obtain ⟨⟨A', c', e⟩, _⟩ := h; injection e
theorem OwS.snoc (F : Fam T O) {w1 : World} {v' : Value} {vs : List Value} {u : Value} {l : α} {row : Option Nat} (h : ∀ (i : Nat) (l : α), ll[i]? = some l → ∃ u, vs[i]? = some u ∧ O w u l) (hl : vs.length = ll.length) (ho : O w u l)
    (g1 : w1.ownsRow B T 1 v' (ll.length + 1) (vs ++ [u])) (g2 : w.grownBy w1 row) (ht : ∀ k, row = some k → ∃ cur fr, w.heap[k]? = some (.cells cur T fr)) : OwS T O B w1 v' (ll ++ [l]) := by
  refine ⟨by simpa using own_form g1, vs ++ [u], by simpa using g1, fun i l' hl' => ?_⟩
  by_cases hi : i < ll.length
  · rw [List.getElem?_append_left hi] at hl'
    obtain ⟨u', hu', ho'⟩ := h i l' hl'
    exact ⟨u', by rw [List.getElem?_append_left (by omega)]; exact hu', F.far ho' g2 ht⟩
  · rw [List.getElem?_append_right (by omega)] at hl'
    have hi0 : i - ll.length = 0 := by
      rcases Nat.eq_zero_or_pos (i - ll.length) with h0 | h0
      · exact h0
      · rw [List.getElem?_eq_none (by simp; omega)] at hl'; cases hl'
    rw [hi0] at hl'
    obtain rfl : l = l' := by simpa using hl'
    exact ⟨u, by rw [List.getElem?_append_right (by omega), hl, hi0]; rfl, F.far ho g2 ht⟩
theorem OwS.app (F : Fam T O) {w1 : World} {v' : Value} {vs us : List Value} {mm : List α} {row : Option Nat} (h : ∀ (i : Nat) (l : α), ll[i]? = some l → ∃ u, vs[i]? = some u ∧ O w u l) (hl : vs.length = ll.length) (ho : ∀ (i : Nat) (l : α), mm[i]? = some l → ∃ u, us[i]? = some u ∧ O w u l)
    (g1 : w1.ownsRow B T 1 v' (ll.length + mm.length) (vs ++ us)) (g2 : w.grownBy w1 row) (ht : ∀ k, row = some k → ∃ cur fr, w.heap[k]? = some (.cells cur T fr)) : OwS T O B w1 v' (ll ++ mm) := by
  refine ⟨by simpa using own_form g1, vs ++ us, by simpa using g1, fun i l' hl' => ?_⟩
  by_cases hi : i < ll.length
  · rw [List.getElem?_append_left hi] at hl'
    obtain ⟨u', hu', ho'⟩ := h i l' hl'
    exact ⟨u', by rw [List.getElem?_append_left (by omega)]; exact hu', F.far ho' g2 ht⟩
  · rw [List.getElem?_append_right (by omega)] at hl'
    obtain ⟨u', hu', ho'⟩ := ho _ l' hl'
    exact ⟨u', by rw [List.getElem?_append_right (by omega), hl]; exact hu', F.far ho' g2 ht⟩
end
theorem fam_I : Fam 24 (OwI 0) where
  bel h hb := h.bel hb
  far h hg ht := ⟨h.1, h.2.1.kept hg (own_apart h.2.1 (by decide) ht), h.2.2⟩
  one h := by obtain ⟨⟨A, c, rfl⟩, _⟩ := h; rfl
def RdII := RdS RdI List.length
def OwII := OwS 24 (OwI 0)
theorem RdII.at_ {w : World} {A : Option Addr} {ll : List (List Int)} (h : RdII w A ll) {k : Nat} (hk : k < ll.length) :
    ∃ b off l A' c, A = some ⟨b, off, none⟩ ∧ b < w.heap.size ∧ ll[k]? = some l ∧ ll.drop k = l :: ll.drop (k + 1) ∧ RdI w A' l ∧ w.cell? ⟨b, off + k, none⟩ = some (.slice A' l.length c) := RdS.at_ h hk
theorem RdII.below {w w' : World} {A : Option Addr} {ll : List (List Int)} (h : RdII w A ll) (hb : Below w.heap.size w w') : RdII w' A ll := RdS.below (fun h => h.below hb) h hb
theorem OwII.bel {B : Nat} {w w' : World} {v : Value} {ll : List (List Int)} (h : OwII B w v ll) (hb : Below w.heap.size w w') : OwII B w' v ll := OwS.bel fam_I h hb
theorem OwII.rd {B : Nat} {w : World} {A : Option Addr} {n c : Nat} {ll : List (List Int)} (h : OwII B w (.slice A n c) ll) : RdII w A ll :=
  OwS.rd (fun h => by obtain ⟨A, c, rfl⟩ := h.1; exact ⟨A, c, rfl, h.rd⟩) h
theorem OwII.form {B : Nat} {w : World} {v : Value} {ll : List (List Int)} (h : OwII B w v ll) : ∃ A c, v = .slice A ll.length c := h.1
theorem info_ints : (Try.prog.info? 24).map (fun i => (i.zero, i.size, i.bytes)) = some (some (.slice none 0 0), 1, 24) := by kernel_rfl
theorem wpList_apII {wr : World} {ops : Array Oper} {rest : List Oper} {o : Oper} {a : Act} {Q : Exit → Act → World → Prop} (hgd : o.guard = none) (s x : Operand) (ho : o.op = .call { callee := .builtin .append, args := #[s, x], argTypes := #[76, 76] })
    (B : Nat) (v : Value) (ll : List (List Int)) (u : Value) (l : List Int) (hs : a.eval s = v) (hx : a.eval x = .slice (some ⟨wr.heap.size, 0, none⟩) 1 1) (hown : OwII B wr v ll) (hu : OwI 0 wr u l) (hB : B ≤ wr.heap.size) (hn : ll.length ≤ 1048576)
    (h : ∀ A' L c' w1, Hid (L = (ll ++ [l]).length) → OwII B w1 (.slice A' L c') (ll ++ [l]) → (∀ w, Below B w wr → Below B w w1) → wr.grownBy w1 v.ownBlock → wr.heap.size + 1 ≤ w1.heap.size → wpList Try.prog ops Q rest (a.put o.dst (.slice A' L c')) w1) :
    wpList Try.prog ops Q (o :: rest) a (wr.alloc (.cells #[u] 24)) := by
  obtain ⟨_, vs, o1, o2⟩ := hown
  have hal : Below wr.heap.size wr (wr.alloc (.cells #[u] 24)) := Below.alloc (Below.refl _ _) (Nat.le_refl _) _
  refine append_at (P := Try.prog) hgd s x 76 ho B 24 (.slice none 0 0) 1 24 Try.underlying76 (by kernel_rfl) rfl (by decide) (by decide) v ll.length vs [u] hs hx o1 rfl (by intro y hy; simp at hy; subst hy; exact fam_I.one hu) hn hB (fun v' w1 g1 g2 g3 => ?_)
  have g2' := grown_bel hal g2
  obtain ⟨A', c', rfl⟩ := own_form g1
  have := OwS.snoc (T := 24) (O := OwI 0) fam_I (B := B) (ll := ll) (w := wr) (fun i l hl => o2 i l hl) (by have := o1.1; omega) hu g1 g2' (own_typ o1)
  rw [show ll.length + 1 = (ll ++ [l]).length by simp] at this ⊢
  exact h A' _ c' w1 (Lib.hid rfl) this (fun w hb => below_grown o1 hB hb g2) g2' (by have := g2.size; simpa using this)
theorem wpList_apsII {wr : World} {ops : Array Oper} {rest : List Oper} {o : Oper} {a : Act} {Q : Exit → Act → World → Prop} (hgd : o.guard = none) (s x : Operand) (ho : o.op = .call { callee := .builtin .append, args := #[s, x], argTypes := #[76, 76] })
    (B B1 : Nat) (v : Value) (ll mm : List (List Int)) (A : Option Addr) (c : Nat) (hs : a.eval s = v) (n : Nat) (hx : a.eval x = .slice A n c) (hown : OwII B wr v ll) (hr : OwII B1 wr (.slice A n c) mm) (hB : B ≤ wr.heap.size) (hn : ll.length ≤ 1048576) (hm : mm.length ≤ 1048576)
    (h : ∀ A' L c' w1, Hid (L = (ll ++ mm).length) → OwII B w1 (.slice A' L c') (ll ++ mm) → (∀ w, Below B w wr → Below B w w1) → wr.grownBy w1 v.ownBlock → wpList Try.prog ops Q rest (a.put o.dst (.slice A' L c')) w1) :
    wpList Try.prog ops Q (o :: rest) a wr := by
  obtain rfl := OwS.len hr
  obtain ⟨_, vs, o1, o2⟩ := hown
  obtain ⟨_, us, r1, r2⟩ := hr
  have hul : us.length = mm.length := by have := r1.1; omega
  refine wpList_append_src (P := Try.prog) hgd s x 76 ho B 24 (.slice none 0 0) 1 24 Try.underlying76 (by kernel_rfl) rfl (by decide) (by decide) v ll.length vs hs o1 A mm.length c us hx (Rd.of_own r1) ?_ hn hm hB (fun v' w1 g1 g2 g3 => ?_)
  · intro y hy
    obtain ⟨i, hi, rfl⟩ := List.getElem_of_mem hy
    obtain ⟨u, hu, ho⟩ := r2 i _ (List.getElem?_eq_getElem (by omega))
    rw [List.getElem?_eq_getElem hi] at hu
    injection hu with hu
    rw [hu]; exact fam_I.one ho
  · obtain ⟨A', c', rfl⟩ := own_form g1
    have := OwS.app (T := 24) (O := OwI 0) fam_I (B := B) (ll := ll) (w := wr) (fun i l hl => o2 i l hl) (by have := o1.1; omega) r2 g1 g2 (own_typ o1)
    rw [← List.length_append] at this ⊢
    exact h A' _ c' w1 (Lib.hid rfl) this (fun w0 hb => hb.grown g2 hB (fun k hk => (o1.lt k hk).1)) g2
end Go.Proofs.Ytdcjhfmkkcakhaa

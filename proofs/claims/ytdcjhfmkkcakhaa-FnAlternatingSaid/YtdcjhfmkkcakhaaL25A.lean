/-
  One law on append for lists of matrices.
-/
import Derived.Test.YtdcjhfmkkcakhaaIntSSS
namespace Go.Proofs.Ytdcjhfmkkcakhaa
open Go.ChangeShapes Go.WideShapes Go.ChangeAt Go.RowKit Go.Deep
set_option linter.unusedVariables false
theorem Parts.app {α : Type} {I : Nat → Nat → World → Value → α → Prop} {lo hi lo2 hi2 : Nat} {w : World} {vs us : List Value} {ll mm : List α} {out : Option Nat} (h : Parts I lo hi w vs ll out) (k : Parts I lo2 hi2 w us mm out) (hlo : lo ≤ lo2) (hd : hi ≤ lo2) (hh : hi ≤ hi2) : Parts I lo hi2 w (vs ++ us) (ll ++ mm) out := by
  obtain ⟨h0, r, h1, h2⟩ := h
  obtain ⟨k0, q, k1, k2⟩ := k
  refine ⟨by simp [h0, k0], fun i => if i < ll.length then r i else q (i - ll.length), fun i l hl => ?_, fun i j hij hj => ?_⟩
  · by_cases hi' : i < ll.length
    · rw [List.getElem?_append_left hi'] at hl
      obtain ⟨u, hu, hI, a, b, c⟩ := h1 i l hl
      simp only [if_pos hi']
      exact ⟨u, by rw [List.getElem?_append_left (by omega)]; exact hu, hI, a, by omega, c⟩
    · rw [List.getElem?_append_right (by omega)] at hl
      obtain ⟨u, hu, hI, a, b, c⟩ := k1 _ l hl
      simp only [if_neg hi']
      exact ⟨u, by rw [List.getElem?_append_right (by omega), h0]; exact hu, hI, by omega, b, c⟩
  · rw [List.length_append] at hj
    by_cases hi' : i < ll.length
    · simp only [if_pos hi']
      by_cases hj' : j < ll.length
      · simp only [if_pos hj']
        exact h2 i j hij hj'
      · simp only [if_neg hj']
        obtain ⟨u, hu, hI, a, b, c⟩ := h1 i _ (List.getElem?_eq_getElem hi')
        obtain ⟨u2, hu2, hI2, a2, b2, c2⟩ := k1 (j - ll.length) _ (List.getElem?_eq_getElem (by omega))
        exact .inl (by omega)
    · simp only [if_neg hi', if_neg (show ¬ j < ll.length by omega)]
      exact k2 _ _ (by omega) (by omega)
theorem wpList_apIn3 {wr : World} {ops : Array Oper} {rest : List Oper} {o : Oper} {a : Act} {Q : Exit → Act → World → Prop} (hgd : o.guard = none) (s x : Operand) (ho : o.op = .call { callee := .builtin .append, args := #[s, x], argTypes := #[78, 78] })
    (lo hi : Nat) (v : Value) (ll : List (List (List Int))) (u : Value) (l : List (List Int)) (a' b' : Nat) (hs : a.eval s = v) (hx : a.eval x = .slice (some ⟨wr.heap.size, 0, none⟩) 1 1) (hown : InIII lo hi wr v ll) (hu : InII a' b' wr u l) (hia : hi ≤ a') (hla : lo ≤ hi) (hab : a' ≤ b') (hbw : b' ≤ wr.heap.size) (hn : ll.length ≤ 1048576)
    (h : ∀ A' L c' w1, Hid (L = (ll ++ [l]).length) → InIII lo w1.heap.size w1 (.slice A' L c') (ll ++ [l]) → (∀ w, Below lo w wr → Below lo w w1) → wr.grownBy w1 v.ownBlock → wr.heap.size + 1 ≤ w1.heap.size → wpList Try.prog ops Q rest (a.put o.dst (.slice A' L c')) w1) :
    wpList Try.prog ops Q (o :: rest) a (wr.alloc (.cells #[u] 76)) := by
  obtain ⟨_, h2, vs, o1, o2⟩ := hown
  have hal : Below wr.heap.size wr (wr.alloc (.cells #[u] 76)) := Below.alloc (Below.refl _ _) (Nat.le_refl _) _
  refine append_at (P := Try.prog) hgd s x 78 ho lo 76 (.slice none 0 0) 1 24 Try.underlying78 (by kernel_rfl) rfl (by decide) (by decide) v ll.length vs [u] hs hx o1 rfl (by intro y hy; simp at hy; subst hy; exact famR_II.one hu) hn (by omega) (fun v' w1 g1 g2 g3 => ?_)
  have g2' := grown_bel hal g2
  obtain ⟨A', c', rfl⟩ := own_form g1
  have := InS.snoc (T := 76) (I := InII) famR_II (lo := lo) (ll := ll) (w := wr) h2 o2 hu hia (by omega) hab hbw g1 g2' (by rcases g3 with g3 | g3; exact .inl g3; exact .inr (fun k hk => by rw [hk] at g3; injection g3; omega))
  rw [show ll.length + 1 = (ll ++ [l]).length by simp] at this ⊢
  exact h A' _ c' w1 (Lib.hid rfl) this (fun w hb => below_grown o1 (by omega) hb g2) g2' (by have := g2.size; simpa using this)
theorem InS.app {α : Type} {T : TypeId} {I : Nat → Nat → World → Value → α → Prop} (F : FamR I) {lo hi lo2 hi2 : Nat} {w w1 : World} {v v' : Value} {vs us : List Value} {ll mm : List α} {out2 : Option Nat} (h2 : ∀ k, v.ownBlock = some k → k < hi) (h4 : Parts I lo hi w vs ll v.ownBlock) (k4 : Parts I lo2 hi2 w us mm out2) (hlo : lo ≤ lo2) (hd : hi ≤ lo2) (hh : hi ≤ hi2) (hbw : hi2 ≤ w.heap.size)
    (g1 : w1.ownsRow lo T 1 v' (ll.length + mm.length) (vs ++ us)) (g2 : w.grownBy w1 v.ownBlock) (g3 : v'.ownBlock = v.ownBlock ∨ ∀ k, v'.ownBlock = some k → w.heap.size ≤ k) : InS T I lo w1.heap.size w1 v' (ll ++ mm) := by
  have P := h4.app (k4.out_ (out' := v.ownBlock) (.inr fun k hk => by have := h2 k hk; omega)) hlo hd hh
  obtain ⟨h0, r, h3, h5⟩ := P
  refine ⟨by simpa using own_form g1, fun k hk => (g1.lt k hk).2, vs ++ us, by simpa using g1, h0, r, fun i l' hl' => ?_, h5⟩
  obtain ⟨u', hu', hI', a', b', c'⟩ := h3 i l' hl'
  refine ⟨u', hu', F.loc hI' (.of_grown g2 c'), a', by have := g2.size; omega, fun k hk => ?_⟩
  rcases g3 with g3 | g3
  · rw [g3] at hk; exact c' k hk
  · have := g3 k hk; omega
theorem wpList_apsIn3 {wr : World} {ops : Array Oper} {rest : List Oper} {o : Oper} {a : Act} {Q : Exit → Act → World → Prop} (hgd : o.guard = none) (s x : Operand) (ho : o.op = .call { callee := .builtin .append, args := #[s, x], argTypes := #[78, 78] })
    (lo hi lo2 hi2 : Nat) (v : Value) (ll mm : List (List (List Int))) (A : Option Addr) (c : Nat) (hs : a.eval s = v) (n : Nat) (hx : a.eval x = .slice A n c) (hown : InIII lo hi wr v ll) (hr : InIII lo2 hi2 wr (.slice A n c) mm) (hlo : lo ≤ lo2) (hd : hi ≤ lo2) (hh : hi ≤ hi2) (hbw : hi2 ≤ wr.heap.size) (hB : lo ≤ wr.heap.size) (hn : ll.length ≤ 1048576) (hm : mm.length ≤ 1048576)
    (h : ∀ A' L c' w1, Hid (L = (ll ++ mm).length) → InIII lo w1.heap.size w1 (.slice A' L c') (ll ++ mm) → (∀ w, Below lo w wr → Below lo w w1) → wr.grownBy w1 v.ownBlock → wpList Try.prog ops Q rest (a.put o.dst (.slice A' L c')) w1) :
    wpList Try.prog ops Q (o :: rest) a wr := by
  obtain rfl := InS.len hr
  obtain ⟨_, h2, vs, o1, o2⟩ := hown
  obtain ⟨_, _, us, r1, r2⟩ := hr
  have hul : us.length = mm.length := by have := r1.1; omega
  refine wpList_append_src (P := Try.prog) hgd s x 78 ho lo 76 (.slice none 0 0) 1 24 Try.underlying78 (by kernel_rfl) rfl (by decide) (by decide) v ll.length vs hs o1 A mm.length c us hx (Rd.of_own r1) ?_ hn hm hB (fun v' w1 g1 g2 g3 => ?_)
  · intro y hy
    obtain ⟨i, hi, rfl⟩ := List.getElem_of_mem hy
    obtain ⟨_, q, q1, _⟩ := id r2
    obtain ⟨u, hu, ho, _⟩ := q1 i _ (List.getElem?_eq_getElem (by omega))
    rw [List.getElem?_eq_getElem hi] at hu
    injection hu with hu
    rw [hu]; exact famR_II.one ho
  · obtain ⟨A', c', rfl⟩ := own_form g1
    have := InS.app (T := 76) (I := InII) famR_II (lo := lo) (ll := ll) (mm := mm) (w := wr) h2 o2 r2 hlo hd hh hbw g1 g2 (by rcases g3 with g3 | g3; exact .inl g3; exact .inr (fun k hk => by rw [hk] at g3; injection g3; omega))
    rw [show ll.length + mm.length = (ll ++ mm).length by simp] at this ⊢
    exact h A' _ c' w1 (Lib.hid rfl) this (fun w0 hb => hb.grown g2 hB (fun k hk => (o1.lt k hk).1)) g2
end Go.Proofs.Ytdcjhfmkkcakhaa

/-
  Slices of lists of dominoes, and the laws of append on them; a law of append for a whole list as one step of a region; no statement is proved here; at most 1048576 elements.
-/
import Derived.Test.YtdcjhfmkkcakhaaSlices
import Derived.Test.YtdcjhfmkkcakhaaSort
namespace Go.Proofs.Ytdcjhfmkkcakhaa
open Go.ChangeShapes Go.WideShapes Go.ChangeAt Go.RowKit Go.Deep
set_option linter.unusedVariables false

theorem step_apsrc {P : Program} {w : World} {ops : Array Oper} {o : Oper} {a : Act} {K : Act → World → Prop} {Q : Exit → Act → World → Prop} {E : Prop} (hgd : o.guard = none) (s x : Operand) (t : TypeId)
    (ho : o.op = .call { callee := .builtin .append, args := #[s, x], argTypes := #[t, t] })
    (base : Nat) (e : TypeId) (z : Value) (sz bytes : Nat) (ht : P.underlying t = some (.slice e)) (hinfo : (P.info? e).map (fun i => (i.zero, i.size, i.bytes)) = some (some z, sz, bytes)) (hzs : z.cells.size = sz) (hsz : 0 < sz) (hby : bytes ≤ 100)
    (v : Value) (n : Nat) (xs : List Value) (hs : a.eval s = v) (hown : w.ownsRow base e sz v n xs) (A : Option Addr) (m c : Nat) (news : List Value) (hx : a.eval x = .slice A m c) (hr : Rd w sz A m news) (h1 : ∀ u ∈ news, u.oneCell' = true) (hn : n ≤ 1048576) (hm : m ≤ 1048576) (hbase : base ≤ w.heap.size)
    (h : ∀ v' w', w'.ownsRow base e sz v' (n + m) (xs ++ news) → w.grownBy w' v.ownBlock → (v'.ownBlock = v.ownBlock ∨ v'.ownBlock = some w.heap.size) → K (a.put o.dst v') w') :
    if Region.wanted o (yielded ops a.tmps) = true then Oper.wp P o a w K Q else E := by
  have hw : Region.wanted o (yielded ops a.tmps) = true := by simp [Region.wanted, hgd]
  rw [if_pos hw]
  exact wp_append_src s x t ho base e z sz bytes ht hinfo hzs hsz hby v n xs hs hown A m c news hx hr h1 hn hm hbase h
theorem step_apsD {W : World} {ops : Array Oper} {o : Oper} {a : Act} {K : Act → World → Prop} {Q : Exit → Act → World → Prop} {E : Prop} (hgd : o.guard = none) (s x : Operand) (ho : o.op = .call { callee := .builtin .append, args := #[s, x], argTypes := #[46, 46] })
    (B : Nat) (v : Value) (l m : List Dm) (A : Option Addr) (n c : Nat) (hs : a.eval s = v) (hx : a.eval x = .slice A n c) (hown : OwD B W v l) (hr : RdD W A m) (hnm : n = m.length) (hB : B ≤ W.heap.size) (hn : l.length ≤ 1048576) (hm : m.length ≤ 1048576)
    (h : ∀ A' L c' w1, Hid (L = (l ++ m).length) → OwD B w1 (.slice A' L c') (l ++ m) → (∀ w0, Below B w0 W → Below B w0 w1) → W.grownBy w1 v.ownBlock → K (a.put o.dst (.slice A' L c')) w1) :
    if Region.wanted o (yielded ops a.tmps) = true then Oper.wp Try.prog o a W K Q else E := by
  subst hnm
  obtain ⟨_, o1, o2⟩ := hown
  refine step_apsrc (P := Try.prog) hgd s x 46 ho B 53 (.agg #[.int .i64 0, .int .i64 0, .bool false]) 3 24 Try.underlying46 (by kernel_rfl) rfl (by decide) (by decide) v l.length (l.flatMap cD) hs o1 A m.length c (m.flatMap cD) hx hr.1 flat_oneD hn hm hB (fun v' w1 g1 g2 g3 => ?_)
  obtain ⟨A', c', rfl⟩ := own_form g1
  rw [← List.length_append, ← List.flatMap_append] at g1
  rw [← List.length_append]
  exact h A' _ c' w1 (Lib.hid rfl) ⟨⟨_, _, rfl⟩, g1, fun y hy => (List.mem_append.1 hy).elim (o2 y) (hr.2 y)⟩ (fun w0 hb => hb.grown g2 hB (fun k hk => (o1.lt k hk).1)) g2
theorem fam_D : Fam 46 (OwD 0) where
  bel h hb := h.bel hb
  far h hg ht := ⟨h.1, h.2.1.kept hg (own_apart h.2.1 (by decide) ht), h.2.2⟩
  one h := by obtain ⟨⟨A, c, rfl⟩, _⟩ := h; rfl
def RdDD := RdS RdD List.length
def OwDD := OwS 46 (OwD 0)
theorem RdDD.at_ {w : World} {A : Option Addr} {ll : List (List Dm)} (h : RdDD w A ll) {k : Nat} (hk : k < ll.length) :
    ∃ b off l A' c, A = some ⟨b, off, none⟩ ∧ b < w.heap.size ∧ ll[k]? = some l ∧ ll.drop k = l :: ll.drop (k + 1) ∧ RdD w A' l ∧ w.cell? ⟨b, off + k, none⟩ = some (.slice A' l.length c) := RdS.at_ h hk
theorem RdDD.below {w w' : World} {A : Option Addr} {ll : List (List Dm)} (h : RdDD w A ll) (hb : Below w.heap.size w w') : RdDD w' A ll := RdS.below (fun h => h.below hb) h hb
theorem OwDD.bel {B : Nat} {w w' : World} {v : Value} {ll : List (List Dm)} (h : OwDD B w v ll) (hb : Below w.heap.size w w') : OwDD B w' v ll := OwS.bel fam_D h hb
theorem OwDD.mono {B B' : Nat} {w : World} {v : Value} {ll : List (List Dm)} (h : OwDD B w v ll) (hB : B' ≤ B) : OwDD B' w v ll := OwS.mono h hB
theorem OwDD.rd {B : Nat} {w : World} {A : Option Addr} {n c : Nat} {ll : List (List Dm)} (h : OwDD B w (.slice A n c) ll) : RdDD w A ll :=
  OwS.rd (fun h => by obtain ⟨A, c, rfl⟩ := h.1; exact ⟨A, c, rfl, h.rd⟩) h
theorem OwDD.form {B : Nat} {w : World} {v : Value} {ll : List (List Dm)} (h : OwDD B w v ll) : ∃ A c, v = .slice A ll.length c := h.1
theorem OwDD.new_ {B : Nat} {w : World} (hB : B ≤ w.heap.size) : OwDD B (w.alloc (.cells #[] 46)) (.slice (some ⟨w.heap.size, 0, none⟩) 0 0) [] := OwS.new_ _ _ hB
theorem OwDD.nil_ (B : Nat) (w : World) : OwDD B w (.slice none 0 0) [] := OwS.nil_ _ _ _ _
theorem info_doms : (Try.prog.info? 46).map (fun i => (i.zero, i.size, i.bytes)) = some (some (.slice none 0 0), 1, 24) := by kernel_rfl
theorem wpList_apDD {wr : World} {ops : Array Oper} {rest : List Oper} {o : Oper} {a : Act} {Q : Exit → Act → World → Prop} (hgd : o.guard = none) (s x : Operand) (ho : o.op = .call { callee := .builtin .append, args := #[s, x], argTypes := #[125, 125] })
    (B : Nat) (v : Value) (ll : List (List Dm)) (u : Value) (l : List Dm) (hs : a.eval s = v) (hx : a.eval x = .slice (some ⟨wr.heap.size, 0, none⟩) 1 1) (hown : OwDD B wr v ll) (hu : OwD 0 wr u l) (hB : B ≤ wr.heap.size) (hn : ll.length ≤ 1048576)
    (h : ∀ A' L c' w1, Hid (L = (ll ++ [l]).length) → OwDD B w1 (.slice A' L c') (ll ++ [l]) → (∀ w, Below B w wr → Below B w w1) → wr.grownBy w1 v.ownBlock → wr.heap.size + 1 ≤ w1.heap.size → wpList Try.prog ops Q rest (a.put o.dst (.slice A' L c')) w1) :
    wpList Try.prog ops Q (o :: rest) a (wr.alloc (.cells #[u] 46)) := by
  obtain ⟨_, vs, o1, o2⟩ := hown
  have hal : Below wr.heap.size wr (wr.alloc (.cells #[u] 46)) := Below.alloc (Below.refl _ _) (Nat.le_refl _) _
  refine append_at (P := Try.prog) hgd s x 125 ho B 46 (.slice none 0 0) 1 24 Try.underlying125 (by kernel_rfl) rfl (by decide) (by decide) v ll.length vs [u] hs hx o1 rfl (by intro y hy; simp at hy; subst hy; exact fam_D.one hu) hn hB (fun v' w1 g1 g2 g3 => ?_)
  have g2' := grown_bel hal g2
  obtain ⟨A', c', rfl⟩ := own_form g1
  have := OwS.snoc (T := 46) (O := OwD 0) fam_D (B := B) (ll := ll) (w := wr) (fun i l hl => o2 i l hl) (by have := o1.1; omega) hu g1 g2' (own_typ o1)
  rw [show ll.length + 1 = (ll ++ [l]).length by simp] at this ⊢
  exact h A' _ c' w1 (Lib.hid rfl) this (fun w hb => below_grown o1 hB hb g2) g2' (by have := g2.size; simpa using this)
theorem step_apsDD {wr : World} {ops : Array Oper} {o : Oper} {a : Act} {K : Act → World → Prop} {Q : Exit → Act → World → Prop} {E : Prop} (hgd : o.guard = none) (s x : Operand) (ho : o.op = .call { callee := .builtin .append, args := #[s, x], argTypes := #[125, 125] })
    (B B1 : Nat) (v : Value) (ll mm : List (List Dm)) (A : Option Addr) (n c : Nat) (hs : a.eval s = v) (hx : a.eval x = .slice A n c) (hown : OwDD B wr v ll) (hr : OwDD B1 wr (.slice A n c) mm) (hB : B ≤ wr.heap.size) (hn : ll.length ≤ 1048576) (hm : mm.length ≤ 1048576)
    (h : ∀ A' L c' w1, Hid (L = (ll ++ mm).length) → OwDD B w1 (.slice A' L c') (ll ++ mm) → (∀ w, Below B w wr → Below B w w1) → wr.grownBy w1 v.ownBlock → K (a.put o.dst (.slice A' L c')) w1) :
    if Region.wanted o (yielded ops a.tmps) = true then Oper.wp Try.prog o a wr K Q else E := by
  obtain rfl := OwS.len hr
  obtain ⟨_, vs, o1, o2⟩ := hown
  obtain ⟨_, us, r1, r2⟩ := hr
  have hul : us.length = mm.length := by have := r1.1; omega
  refine step_apsrc (P := Try.prog) hgd s x 125 ho B 46 (.slice none 0 0) 1 24 Try.underlying125 (by kernel_rfl) rfl (by decide) (by decide) v ll.length vs hs o1 A mm.length c us hx (Rd.of_own r1) ?_ hn hm hB (fun v' w1 g1 g2 g3 => ?_)
  · intro y hy
    obtain ⟨i, hi, rfl⟩ := List.getElem_of_mem hy
    obtain ⟨u, hu, ho⟩ := r2 i _ (List.getElem?_eq_getElem (by omega))
    rw [List.getElem?_eq_getElem hi] at hu
    injection hu with hu
    rw [hu]; exact fam_D.one ho
  · obtain ⟨A', c', rfl⟩ := own_form g1
    have := OwS.app (T := 46) (O := OwD 0) fam_D (B := B) (ll := ll) (w := wr) (fun i l hl => o2 i l hl) (by have := o1.1; omega) r2 g1 g2 (own_typ o1)
    rw [← List.length_append] at this ⊢
    exact h A' _ c' w1 (Lib.hid rfl) this (fun w0 hb => hb.grown g2 hB (fun k hk => (o1.lt k hk).1)) g2
end Go.Proofs.Ytdcjhfmkkcakhaa

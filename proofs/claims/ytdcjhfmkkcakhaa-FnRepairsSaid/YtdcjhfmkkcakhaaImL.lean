/-
  The program's list of all tilings: each with its closure, the callback that copies, and ListTilings: all tilings in order, as the reference's list; nothing that was there is written. No condition.
-/
import Derived.Test.YtdcjhfmkkcakhaaImC
import Derived.Test.YtdcjhfmkkcakhaaL08
import Derived.Test.YtdcjhfmkkcakhaaRows2
import Derived.BigQuiet
import Derived.Deep.CutRange
import Derived.Deep.RegionWith
import Derived.Deep.RegionLaw
import Derived.Laws.EntriesVeiled
namespace Go.Proofs.Ytdcjhfmkkcakhaa
open Go.ChangeShapes Go.WideShapes Go.ChangeAt Go.RowKit Go.Deep
set_option linter.unusedVariables false
/-- Blocks of other types than dominoes' are kept. -/
structure Kp (w w' : World) : Prop where
  size : w.heap.size ≤ w'.heap.size
  keep : ∀ (k : Nat) (cur : Array Value) (T : TypeId) (fr : Nat × Nat), w.heap[k]? = some (.cells cur T fr) → T ≠ 53 → T ≠ 46 → T ≠ 125 → w'.heap[k]? = some (.cells cur T fr)
theorem Kp.refl (w : World) : Kp w w := ⟨Nat.le_refl _, fun _ _ _ _ h _ _ _ => h⟩
theorem Kp.trans {a b c : World} (h : Kp a b) (g : Kp b c) : Kp a c := ⟨Nat.le_trans h.size g.size, fun k cur T fr h1 h2 h3 h4 => g.keep k cur T fr (h.keep k cur T fr h1 h2 h3 h4) h2 h3 h4⟩
theorem heap_lt {w : World} {k : Nat} {o : Obj} (h : w.heap[k]? = some o) : k < w.heap.size := (Array.getElem?_eq_some_iff.1 h).1
theorem Kp.bel {w w' : World} (h : Below w.heap.size w w') : Kp w w' := ⟨h.size, fun k cur T fr h1 _ _ _ => (h.block k (heap_lt h1)).trans h1⟩
theorem Kp.grown {w w' : World} {row : Option Nat} (h : w.grownBy w' row) (ht : ∀ k, row = some k → ∃ cur fr T, w.heap[k]? = some (.cells cur T fr) ∧ (T = 53 ∨ T = 46 ∨ T = 125)) : Kp w w' := by
  refine ⟨h.size, fun k cur T fr h1 h2 h3 h4 => ?_⟩
  rw [h.block k (heap_lt h1) ?_]
  · exact h1
  · intro e
    obtain ⟨cur', fr', T', g1, g2⟩ := ht k e.symm
    rw [h1] at g1
    injection g1 with g1
    injection g1 with _ g3 _
    subst g3
    rcases g2 with g2 | g2 | g2
    · exact h2 g2
    · exact h3 g2
    · exact h4 g2
theorem Kp.set {w : World} {b : Nat} {T : TypeId} {xs : List Value} (h : Blk w b T xs) (hT : T = 53 ∨ T = 46 ∨ T = 125) (i : Nat) (u : Value) : Kp w (w.setCell ⟨b, i, none⟩ u) :=
  Kp.grown (row := some b) setc_grown (fun k hk => by injection hk with hk; subst hk; exact ⟨_, _, _, h, hT⟩)
theorem Blk.kp {w w' : World} {g : Nat} {E : TypeId} {xs : List Value} (h : Blk w g E xs) (hk : Kp w w') (h1 : E ≠ 53) (h2 : E ≠ 46) (h3 : E ≠ 125) : Blk w' g E xs := hk.keep g _ _ _ h h1 h2 h3
/-- An item: an owned list of dominoes in a block of its own, not the one that is written. -/
def OD (lo : Nat) (ob : Option Nat) (w : World) (u : Value) (l : List Dm) : Prop := OwD lo w u l ∧ ∃ k, u.ownBlock = some k ∧ some k ≠ ob
theorem fam_OD (lo : Nat) (ob : Option Nat) : Fam 46 (OD lo ob) where
  bel h hb := ⟨h.1.bel hb, h.2⟩
  far h hg ht := ⟨⟨h.1.1, h.1.2.1.kept hg (own_apart h.1.2.1 (by decide) ht), h.1.2.2⟩, h.2⟩
  one h := fam_D.one (h.1.mono (Nat.zero_le _))
def OwX (ob : Option Nat) (B : Nat) (w : World) (v : Value) (ll : List (List Dm)) : Prop := OwS 46 (OD B ob) B w v ll
theorem OwX.bel {ob : Option Nat} {B : Nat} {w w' : World} {v : Value} {ll : List (List Dm)} (h : OwX ob B w v ll) (hb : Below w.heap.size w w') : OwX ob B w' v ll := OwS.bel (fam_OD B ob) h hb
/-- the list under way grows -/
theorem OwX.list {ob ob' : Option Nat} {B : Nat} {w w' : World} {v : Value} {ll : List (List Dm)} (h : OwX ob B w v ll) (hg : w.grownBy w' ob) (hob : ∀ k, ob = some k → ∃ cur fr, w.heap[k]? = some (.cells cur 53 fr)) (hn : ob' = ob ∨ ∀ k, ob' = some k → w.heap.size ≤ k) : OwX ob' B w' v ll := by
  obtain ⟨hf, vs, h1, h2⟩ := h
  refine ⟨hf, vs, h1.kept hg (own_apart h1 (by decide) hob), fun i l hl => ?_⟩
  obtain ⟨u, hu, ho, k, hk, hne⟩ := h2 i l hl
  refine ⟨u, hu, ⟨ho.1, ho.2.1.kept hg (.inr (by rw [hk]; exact hne)), ho.2.2⟩, k, hk, ?_⟩
  rcases hn with hn | hn
  · rw [hn]; exact hne
  · intro e
    have := hn k e.symm
    have := (ho.2.1.lt k hk).2
    omega
/-- a box is written -/
theorem OwX.box {ob : Option Nat} {B : Nat} {w : World} {v : Value} {ll : List (List Dm)} (h : OwX ob B w v ll) {b : Nat} {T : TypeId} {xs : List Value} (hb : Blk w b T xs) (hT : 53 ≠ T) (hv : ∀ k, v.ownBlock = some k → k ≠ b) (i : Nat) (u : Value) : OwX ob B (w.setCell ⟨b, i, none⟩ u) v ll := by
  obtain ⟨hf, vs, h1, h2⟩ := h
  refine ⟨hf, vs, h1.kept setc_grown ?_, fun j l hl => ?_⟩
  · cases hv2 : v.ownBlock with
    | none => exact .inl rfl
    | some k => exact .inr (fun e => hv k hv2 (by injection e))
  · obtain ⟨u', hu', ho, hk⟩ := h2 j l hl
    exact ⟨u', hu', ⟨ho.1, ho.2.1.kept setc_grown (own_apart ho.2.1 hT (fun k hk => by injection hk with hk; subst hk; exact ⟨_, _, hb⟩)), ho.2.2⟩, hk⟩
theorem OwD.boxd {B : Nat} {w : World} {v : Value} {l : List Dm} (h : OwD B w v l) {b : Nat} {T : TypeId} {xs : List Value} (hb : Blk w b T xs) (hT : 53 ≠ T) (i : Nat) (u : Value) : OwD B (w.setCell ⟨b, i, none⟩ u) v l :=
  ⟨h.1, h.2.1.kept setc_grown (own_apart h.2.1 hT (fun k hk => by injection hk with hk; subst hk; exact ⟨_, _, hb⟩)), h.2.2⟩
/-- the first dominoes of an owned list -/
theorem OwD.cutd {B n c : Nat} {A : Option Addr} {w : World} {l : List Dm} {d : Dm} (h : OwD B w (.slice A (n + 1) c) (l ++ [d])) (hn : n = l.length) : OwD B w (.slice A n c) l := by
  subst hn
  obtain ⟨_, ⟨h0, h1⟩, h2⟩ := h
  have e3 : ((l ++ [d]).flatMap cD) = l.flatMap cD ++ cD d := by simp
  have e4 : (l.flatMap cD).length = l.length * 3 := flatMap_len cD 3 (fun _ => rfl) l
  refine ⟨⟨_, _, rfl⟩, ⟨e4, ?_⟩, fun x hx => h2 x (List.mem_append_left _ hx)⟩
  rcases h1 with ⟨h1, h3⟩ | ⟨g, cap, cur, h1, h3, h4, h5, h6, h7, h8⟩
  · injection h1 with _ h1; omega
  · injection h1 with f1 f2 f3
    subst f1; subst f3
    refine .inr ⟨g, c, cur, rfl, h3, h4, by omega, h6, h7, ?_⟩
    have h9 := congrArg (List.take (l.length * 3)) h8
    rw [e3, List.take_take] at h9
    rw [show min (l.length * 3) ((l ++ [d]).length * 3) = l.length * 3 by simp] at h9
    rw [h9, ← e4, List.take_left']
    rfl
theorem wpList_apsX {w : World} {ops : Array Oper} {rest : List Oper} {o : Oper} {a : Act} {Q : Exit → Act → World → Prop} (hgd : o.guard = none) (s x : Operand) (ho : o.op = .call { callee := .builtin .append, args := #[s, x], argTypes := #[46, 46] })
    (B : Nat) (v : Value) (l m : List Dm) (A : Option Addr) (c : Nat) (hs : a.eval s = v) (n : Nat) (hx : a.eval x = .slice A n c) (hown : OwD B w v l) (hr : RdD w A m) (hnm : n = m.length) (hB : B ≤ w.heap.size) (hn : l.length ≤ 1048576) (hm : m.length ≤ 1048576) (hk : ∃ k, v.ownBlock = some k)
    (h : ∀ v' w1, OwD B w1 v' (l ++ m) → (∀ w0, Below B w0 w → Below B w0 w1) → (∃ k, v'.ownBlock = some k ∧ B ≤ k) → wpList Try.prog ops Q rest (a.put o.dst v') w1) :
    wpList Try.prog ops Q (o :: rest) a w := by
  subst hnm
  obtain ⟨_, o1, o2⟩ := hown
  refine wpList_append_src (P := Try.prog) hgd s x 46 ho B 53 (.agg #[.int .i64 0, .int .i64 0, .bool false]) 3 24 Try.underlying46 (by kernel_rfl) rfl (by decide) (by decide) v l.length (l.flatMap cD) hs o1 A m.length c (m.flatMap cD) hx hr.1 flat_oneD hn hm hB (fun v' w1 g1 g2 g3 => ?_)
  rw [← List.length_append, ← List.flatMap_append] at g1
  refine h v' w1 ⟨own_form g1, g1, fun y hy => (List.mem_append.1 hy).elim (o2 y) (hr.2 y)⟩ (fun w0 hb => hb.grown g2 hB (fun k hk => (o1.lt k hk).1)) ?_
  rcases g3 with g3 | g3
  · obtain ⟨k, hk⟩ := hk
    exact ⟨k, g3.trans hk, (o1.lt k hk).1⟩
  · exact ⟨_, g3, hB⟩
set_option maxRecDepth 100000 in
set_option maxHeartbeats 4000000 in
theorem copyDominoes_any (A : Option Addr) (N c : Nat) (l : List Dm) (w : World) (hN : N = l.length) (hl : N ≤ 1048576) (hr : RdD w A l) :
    Calls Try.prog 187 #[.slice A N c] w fun e w' => ∃ v, e = .returned v ∧ (OwD w.heap.size w' v l ∧ ∃ k, v.ownBlock = some k ∧ w.heap.size ≤ k) ∧ Below w.heap.size w w' := by
  have HN := Lib.hid hN
  have hr' := Lib.hid (hr.below (bl_alloc (Below.refl w.heap.size w) (.cells #[] 53)))
  have O := Lib.hid (OwD.new_ (B := w.heap.size) (w := w) (Nat.le_refl _))
  have hB := Lib.hid (bl_alloc (Below.refl w.heap.size w) (.cells #[] 53))
  clear hN hr
  go_enter Try.func187, Try.ntmps187
  go_wp2_with (at_builtin; refine wpList_apsX rfl (.tmp 3) (.tmp 4) rfl w.heap.size (.slice (some ⟨w.heap.size, 0, none⟩) 0 0) [] l A c rfl N rfl O.out hr'.out HN.out (by simp) (by simp) (by have := HN.out; omega) ⟨_, rfl⟩ ?_; intro v' w1 o1 b1 n1)
  go_ret
  exact ⟨v', rfl, ⟨by simpa using o1, n1⟩, b1 _ hB.out⟩
/-- the places of each -/
structure LQ where
  bc : Nat
  bl : Nat
  br : Nat
  go : Nat
structure EA (p : LQ) (w0 w : World) (head : List Dm) (ll : List (List Dm)) : Prop where
  cb : Blk w p.bc 174 [.func (.func 186) #[] #[.pointer (some ⟨p.go, 0, none⟩)]]
  rb : Blk w p.br 183 [.func (.func 205) #[] #[.pointer (some ⟨p.bc, 0, none⟩), .pointer (some ⟨p.bl, 0, none⟩), .pointer (some ⟨p.br, 0, none⟩)]]
  st : ∃ A c A' c', Blk w p.bl 46 [.slice A head.length c] ∧ OwD w0.heap.size w (.slice A head.length c) head ∧ Blk w p.go 125 [.slice A' ll.length c'] ∧ OwX (Value.slice A head.length c).ownBlock w0.heap.size w (.slice A' ll.length c') ll ∧ ∀ k, (Value.slice A' ll.length c').ownBlock = some k → k ≠ p.bl
  b : Below w0.heap.size w0 w
  hp : w0.heap.size ≤ p.bl ∧ w0.heap.size ≤ p.go ∧ p.go ≠ p.bl
theorem EA.bel {p : LQ} {w0 w w' : World} {head : List Dm} {ll : List (List Dm)} (h : EA p w0 w head ll) (hb : Below w.heap.size w w') : EA p w0 w' head ll := by
  obtain ⟨A, c, A', c', k1, k2, k3, k4, k5⟩ := h.st
  exact ⟨h.cb.bel hb, h.rb.bel hb, ⟨A, c, A', c', k1.bel hb, k2.bel hb, k3.bel hb, k4.bel hb, k5⟩, bl_trans h.b hb, h.hp⟩
theorem EA.push {p : LQ} {w0 w w1 : World} {head : List Dm} {ll : List (List Dm)} {A A' : Option Addr} {c c' : Nat} {d : Dm} (h : EA p w0 w head ll) (k1 : Blk w p.bl 46 [.slice A head.length c]) (k2 : OwD w0.heap.size w (.slice A head.length c) head) (k3 : Blk w p.go 125 [.slice A' ll.length c']) (k4 : OwX (Value.slice A head.length c).ownBlock w0.heap.size w (.slice A' ll.length c') ll) (k5 : ∀ k, (Value.slice A' ll.length c').ownBlock = some k → k ≠ p.bl)
    {v' : Value} (o : OwD w0.heap.size w1 v' (head ++ [d])) (hb : Below w0.heap.size w0 w1) (hg : w.grownBy w1 (Value.slice A head.length c).ownBlock) (hat : v'.ownBlock = (Value.slice A head.length c).ownBlock ∨ v'.ownBlock = some (w.heap.size + 1)) :
    EA p w0 (w1.setCell ⟨p.bl, 0, none⟩ v') (head ++ [d]) ll ∧ Kp w (w1.setCell ⟨p.bl, 0, none⟩ v') := by
  have hob := own_typ k2.2.1
  have hK := Kp.grown hg (fun k hk => by obtain ⟨cur, fr, h1⟩ := hob k hk; exact ⟨cur, fr, _, h1, .inl rfl⟩)
  have l1 := k1.keepT hg hob (by decide)
  have l3 := k3.keepT hg hob (by decide)
  have l4 := k4.list (ob' := v'.ownBlock) hg hob (hat.imp id (fun e k hk => by rw [hk] at e; injection e with e; omega))
  obtain ⟨A1, c1, rfl⟩ := o.1
  have hK2 := hK.trans (Kp.set l1 (.inr (.inl rfl)) 0 (.slice A1 (head ++ [d]).length c1))
  refine ⟨⟨h.cb.kp hK2 (by decide) (by decide) (by decide), h.rb.kp hK2 (by decide) (by decide) (by decide), ⟨A1, c1, A', c', l1.set_ 0 _, o.boxd l1 (by decide) 0 _, l3.farN _ _ h.hp.2.2 _, l4.box l1 (by decide) k5 0 _, k5⟩, bl_set hb h.hp.1 _, h.hp⟩, hK2⟩
theorem EA.pop {p : LQ} {w0 w : World} {head : List Dm} {ll : List (List Dm)} {A A' : Option Addr} {c c' : Nat} {d : Dm} (h : EA p w0 w (head ++ [d]) ll) (k1 : Blk w p.bl 46 [.slice A (head ++ [d]).length c]) (k2 : OwD w0.heap.size w (.slice A (head ++ [d]).length c) (head ++ [d])) (k3 : Blk w p.go 125 [.slice A' ll.length c']) (k4 : OwX (Value.slice A (head ++ [d]).length c).ownBlock w0.heap.size w (.slice A' ll.length c') ll) (k5 : ∀ k, (Value.slice A' ll.length c').ownBlock = some k → k ≠ p.bl) :
    EA p w0 (w.setCell ⟨p.bl, 0, none⟩ (.slice A head.length c)) head ll ∧ Kp w (w.setCell ⟨p.bl, 0, none⟩ (.slice A head.length c)) := by
  have hK := Kp.set k1 (.inr (.inl rfl)) 0 (.slice A head.length c)
  have hl : (head ++ [d]).length = head.length + 1 := by simp
  have e : (Value.slice A head.length c).ownBlock = (Value.slice A (head ++ [d]).length c).ownBlock := by cases A <;> rfl
  rw [hl] at k2
  exact ⟨⟨h.cb.kp hK (by decide) (by decide) (by decide), h.rb.kp hK (by decide) (by decide) (by decide), ⟨A, c, A', c', k1.set_ 0 _, (k2.cutd rfl).boxd k1 (by decide) 0 _, k3.farN _ _ h.hp.2.2 _, by rw [e]; exact k4.box k1 (by decide) k5 0 _, k5⟩, bl_set h.b h.hp.1 _, h.hp⟩, hK⟩
theorem step_apX {wr : World} {ops : Array Oper} {o : Oper} {a : Act} {K : Act → World → Prop} {Q : Exit → Act → World → Prop} {E : Prop} (hgd : o.guard = none) (s x : Operand) (ho : o.op = .call { callee := .builtin .append, args := #[s, x], argTypes := #[125, 125] })
    (ob : Option Nat) (B : Nat) (v : Value) (ll : List (List Dm)) (u : Value) (l : List Dm) (hs : a.eval s = v) (hx : a.eval x = .slice (some ⟨wr.heap.size, 0, none⟩) 1 1) (hown : OwX ob B wr v ll) (hu : OD B ob wr u l) (hB : B ≤ wr.heap.size) (hn : ll.length ≤ 1048576)
    (h : ∀ A' L c' w1, Hid (L = (ll ++ [l]).length) → OwX ob B w1 (.slice A' L c') (ll ++ [l]) → (∀ w, Below B w wr → Below B w w1) → wr.grownBy w1 v.ownBlock → ((Value.slice A' L c').ownBlock = v.ownBlock ∨ ∀ k, (Value.slice A' L c').ownBlock = some k → wr.heap.size ≤ k) → K (a.put o.dst (.slice A' L c')) w1) :
    if Region.wanted o (yielded ops a.tmps) = true then Oper.wp Try.prog o a (wr.alloc (.cells #[u] 46)) K Q else E := by
  obtain ⟨_, vs, o1, o2⟩ := hown
  have hal : Below wr.heap.size wr (wr.alloc (.cells #[u] 46)) := Below.alloc (Below.refl _ _) (Nat.le_refl _) _
  refine step_apsrc (P := Try.prog) hgd s x 125 ho B 46 (.slice none 0 0) 1 24 Try.underlying125 (by kernel_rfl) rfl (by decide) (by decide) v ll.length vs hs (o1.alloc _) (some ⟨wr.heap.size, 0, none⟩) 1 1 [u] hx ((Blk.new wr 46 [u]).rd rfl) (by intro y hy; simp at hy; subst hy; exact (fam_OD B ob).one hu) hn (by omega) (by rw [World.size_alloc]; omega) (fun v' w1 g1 g2 g3 => ?_)
  have g2' := grown_bel hal g2
  obtain ⟨A', c', rfl⟩ := own_form g1
  have := OwS.snoc (T := 46) (O := OD B ob) (fam_OD B ob) (B := B) (ll := ll) (w := wr) (fun i l hl => o2 i l hl) (by have := o1.1; omega) hu g1 g2' (own_typ o1)
  rw [show ll.length + 1 = (ll ++ [l]).length by simp] at this g3 ⊢
  refine h A' _ c' w1 (Lib.hid rfl) this (fun w hb => below_grown o1 hB hb g2) g2' ?_
  rcases g3 with g3 | g3
  · exact .inl g3
  · exact .inr fun k hk => by rw [hk] at g3; injection g3 with g3; rw [g3, World.size_alloc]; omega
theorem EA.item {p : LQ} {w0 w w2 : World} {head : List Dm} {ll : List (List Dm)} {A A' A2 : Option Addr} {c c' c2 L : Nat} (h : EA p w0 w head ll) (k1 : Blk w p.bl 46 [.slice A head.length c]) (k2 : OwD w0.heap.size w (.slice A head.length c) head) (k3 : Blk w p.go 125 [.slice A' ll.length c']) (k5 : ∀ k, (Value.slice A' ll.length c').ownBlock = some k → k ≠ p.bl)
    (ht : ∀ k, (Value.slice A' ll.length c').ownBlock = some k → ∃ cur fr, w.heap[k]? = some (.cells cur 46 fr))
    (hL : L = (ll ++ [head]).length) (o : OwX (Value.slice A head.length c).ownBlock w0.heap.size w2 (.slice A2 L c2) (ll ++ [head])) (hb : Below w0.heap.size w0 w2) (hg : w.grownBy w2 (Value.slice A' ll.length c').ownBlock) (hat : (Value.slice A2 L c2).ownBlock = (Value.slice A' ll.length c').ownBlock ∨ ∀ k, (Value.slice A2 L c2).ownBlock = some k → w.heap.size ≤ k) :
    EA p w0 (w2.setCell ⟨p.go, 0, none⟩ (.slice A2 L c2)) head (ll ++ [head]) ∧ Kp w (w2.setCell ⟨p.go, 0, none⟩ (.slice A2 L c2)) := by
  subst hL
  have hK := Kp.grown hg (fun k hk => by obtain ⟨cur, fr, h1⟩ := ht k hk; exact ⟨cur, fr, _, h1, .inr (.inl rfl)⟩)
  have l1 : Blk w2 p.bl 46 [.slice A head.length c] := (hg.block p.bl k1.lt (fun e => k5 p.bl e.symm rfl)).trans k1
  have l2 : OwD w0.heap.size w2 (.slice A head.length c) head := ⟨k2.1, k2.2.1.kept hg (own_apart k2.2.1 (by decide) ht), k2.2.2⟩
  have l3 := k3.keepT hg ht (by decide)
  have k5' : ∀ k, (Value.slice A2 (ll ++ [head]).length c2).ownBlock = some k → k ≠ p.bl := by
    intro k hk
    rcases hat with e | e
    · exact k5 k (e ▸ hk)
    · have := e k hk
      have := k1.lt
      omega
  have hK2 := hK.trans (Kp.set l3 (.inr (.inr rfl)) 0 (.slice A2 (ll ++ [head]).length c2))
  have hgo : ∀ k, (Value.slice A2 (ll ++ [head]).length c2).ownBlock = some k → k ≠ p.go := by
    intro k hk e
    subst e
    obtain ⟨cur, fr, h1⟩ := OwS.typ o _ hk
    have h2 : w2.heap[p.go]? = _ := l3
    rw [h1] at h2
    injection h2 with h2
    injection h2 with _ h3
    exact absurd h3 (by decide)
  exact ⟨⟨h.cb.kp hK2 (by decide) (by decide) (by decide), h.rb.kp hK2 (by decide) (by decide) (by decide), ⟨A, c, A2, c2, l1.farN _ _ (fun e => h.hp.2.2 e.symm) _, l2.boxd l3 (by decide) 0 _, l3.set_ 0 _, o.box l3 (by decide) hgo 0 _, k5'⟩, bl_set hb h.hp.2.1 _, h.hp⟩, hK2⟩
theorem ow_at {ob : Option Nat} {B : Nat} {w : World} {v v' : Value} {ll : List (List Dm)} (h : OwX ob B w v ll) (e : v' = v) : OwX ob B w v' ll := by rw [e]; exact h
theorem od_at {B : Nat} {w w1 W : World} {v u : Value} {l : List Dm} (ou : OwD W.heap.size w1 u l) (nu : ∃ k, u.ownBlock = some k ∧ W.heap.size ≤ k) (hB : B ≤ w.heap.size) (k2 : OwD B w v l) (e : W.heap.size = w.heap.size) : OD B v.ownBlock w1 u l := by
  rw [e] at ou nu
  refine ⟨ou.mono hB, ?_⟩
  obtain ⟨k, n1, n2⟩ := nu
  exact ⟨k, n1, fun h => by have := (k2.2.1.lt k h.symm).2; omega⟩
theorem typ_bel {w w' : World} {v : Value} {T : TypeId} (h : ∀ k, v.ownBlock = some k → ∃ cur fr, w.heap[k]? = some (.cells cur T fr)) (hb : Below w.heap.size w w') : ∀ k, v.ownBlock = some k → ∃ cur fr, w'.heap[k]? = some (.cells cur T fr) := fun k hk => by
  obtain ⟨cur, fr, h1⟩ := h k hk
  exact ⟨cur, fr, (hb.block k (heap_lt h1)).trans h1⟩
theorem ne_dd : 125 ≠ 46 := by decide
set_option maxRecDepth 100000 in
set_option maxHeartbeats 4000000 in
theorem cb_any (p : LQ) (w0 w : World) (head : List Dm) (ll : List (List Dm)) (A : Option Addr) (N c : Nat) (hN : N = head.length) (hh : N ≤ 1048576) (hll : ll.length ≤ 1048576) (h : EA p w0 w head ll) (hr : RdD w A head) :
    Calls Try.prog 186 #[.slice A N c, .pointer (some ⟨p.go, 0, none⟩)] w fun e w' => e = .returned (.tuple #[]) ∧ EA p w0 w' head (ll ++ [head]) ∧ Kp w w' := by
  obtain ⟨A1, c1, A', c', k1, k2, k3, k4, k5⟩ := id h.st
  have ht := Lib.hid (OwS.typ k4)
  have hlow := Lib.hid (OwS.rng k4)
  have H := Lib.hid h
  have K1 := Lib.hid k1
  have K2 := Lib.hid k2
  have K3 := Lib.hid k3
  have K4 := Lib.hid k4
  have K5 := Lib.hid k5
  have HN := Lib.hid hN
  have HR := Lib.hid hr
  have g1 := k3.c1
  have g2 := k3.frozen 0
  obtain ⟨vout, hv⟩ : ∃ vout, vout = Value.slice A' ll.length c' := ⟨_, rfl⟩
  rw [← hv] at g1
  have HV := Lib.hid hv
  clear h k1 k2 k3 k4 k5 hN hr hv
  go_enter Try.func186, Try.ntmps186
  have hdr : Below w.heap.size w w.drew := by go_grown
  have HRd := Lib.hid (HR.out.below hdr)
  have g1d : w.drew.cell? ⟨p.go, 0, none⟩ = some vout := g1
  have hll2 := Lib.hid hll
  have hA0 := World.new_ne w ⟨p.go, 0, none⟩ g1
  have hdrs : w.drew.heap.size = w.heap.size := rfl
  go_region_law (first
    | (go_simp; go_at_call 187; refine (copyDominoes_any A N c head _ HN.out hh HRd.out).mono ?_; rintro e w1 ⟨u, rfl, ⟨ou, nu⟩, hb1⟩; obtain ⟨⟨Au, cu, rfl⟩, _⟩ := id ou; have hb2 := Lib.hid (bl_trans hdr hb1); have OU := Lib.hid ou; have NU := Lib.hid nu; have g3 : w1.cell? ⟨p.go, 0, none⟩ = some vout := (hb2.out.cell (p := ⟨p.go, 0, none⟩) K3.out.lt).trans g1; have g4 := ((K3.out.bel hb2.out).alloc (.cells #[.slice Au head.length cu] 46)).c1; rw [← HV.out] at g4; have HX1 := Lib.hid (ow_at (K4.out.bel hb2.out) HV.out); have HU1 := Lib.hid (od_at OU.out NU.out H.out.b.size K2.out hdrs); have HT1 := Lib.hid (typ_bel ht.out hb2.out); have hsz1 := Nat.le_trans H.out.b.size hb2.out.size; have hB1 := Lib.hid (bl_trans H.out.b hb2.out); have K31 := Lib.hid (K3.out.bel hb2.out); have hlq := hll2.out; clear ou nu hb1)
    | (refine step_apX (by rfl) (.tmp 3) (.tmp 6) (by rfl) (Value.slice A1 head.length c1).ownBlock w0.heap.size vout ll (.slice Au head.length cu) head (by rfl) (by rfl) HX1.out HU1.out hsz1 hlq ?_; intro A2 L2 c2 w2 hL2 o2 b2 gr2 at2; rw [HV.out] at gr2 at2; have l3 := K31.out.keepT gr2 HT1.out ne_dd; have s1 := l3.c1; have s2 := l3.frozen 0; have HI := Lib.hid ((H.out.bel hb2.out).item (K1.out.bel hb2.out) (K2.out.bel hb2.out) K31.out K5.out HT1.out hL2.out o2 (b2 _ hB1.out) gr2 at2); clear o2 b2 gr2 at2 l3))
  all_goals (go_wp2_with fail; exact bodyPost_end (results_none rfl _ _ _) rfl ⟨rfl, HI.out.1, (Kp.bel hb2.out).trans HI.out.2⟩)
def partT (f s : Nat) : Nat → List (List Dm)
  | 0 => []
  | 1 => tilD f s false
  | _ => tilD f s false ++ tilD f s true
theorem partT_succ (f s k : Nat) (hk : k < 2) : partT f s (k + 1) = partT f s k ++ tilD f s (decide (k = 1)) := by
  have h2 : k = 0 ∨ k = 1 := by omega
  rcases h2 with rfl | rfl
  · show tilD f s false = [] ++ tilD f s false
    rw [List.nil_append]
  · rfl
theorem partT_two (f : Nat) {s : Nat} (h : s ≠ 0) : tils (f + 1) s = partT f s 2 := tils_succ f h
theorem tilD_n_ {f s : Nat} {z : Bool} (h : fitD s (dmAt (lowb s) z) = false) : tilD f s z = [] := by unfold tilD; rw [h]; rfl
theorem tilD_y_ {f s : Nat} {z : Bool} (h : fitD s (dmAt (lowb s) z) = true) : tilD f s z = (tils f (bdiff s (ownD (dmAt (lowb s) z)))).map (dmAt (lowb s) z :: ·) := by unfold tilD; rw [if_pos h]
theorem part_len (f s k : Nat) (hk : k < 2) : (partT f s k).length + (tilD f s (decide (k = 1))).length ≤ (partT f s 2).length := by
  have h2 : k = 0 ∨ k = 1 := by omega
  rcases h2 with rfl | rfl
  · show 0 + (tilD f s false).length ≤ (tilD f s false ++ tilD f s true).length
    rw [List.length_append]; omega
  · show (tilD f s false).length + (tilD f s true).length ≤ (tilD f s false ++ tilD f s true).length
    rw [List.length_append]; exact Nat.le_refl _
theorem part_app (ll P T : List (List Dm)) (head : List Dm) (d : Dm) : ll ++ (P ++ T.map (d :: ·)).map (head ++ ·) = (ll ++ P.map (head ++ ·)) ++ T.map ((head ++ [d]) ++ ·) := by
  rw [List.map_append, List.map_map, List.append_assoc]
  congr 2
  refine List.map_congr_left fun x _ => ?_
  show head ++ d :: x = head ++ [d] ++ x
  rw [List.append_assoc]; rfl
theorem Blk.neT {w : World} {a b : Nat} {E T : TypeId} {xs ys : List Value} (h : Blk w a E xs) (g : Blk w b T ys) (hne : E ≠ T) : a ≠ b := by
  intro e
  subst e
  have h1 : w.heap[a]? = _ := h
  have h2 : w.heap[a]? = _ := g
  rw [h1] at h2
  injection h2 with h2
  injection h2 with _ h3
  exact hne h3
theorem OwD.capd {B : Nat} {w : World} {A : Option Addr} {n c : Nat} {l : List Dm} (h : OwD B w (.slice A n c) l) : n ≤ c := by
  rcases h.2.1.2 with ⟨h1, h2⟩ | ⟨g, cap, cur, h1, _, _, h2, _⟩
  · injection h1 with _ h1 h3; omega
  · injection h1 with _ h1 h3; omega
theorem OwD.somed {B : Nat} {w : World} {A : Option Addr} {n c : Nat} {l : List Dm} (h : OwD B w (.slice A n c) l) (hl : l ≠ []) : ∃ g, A = some ⟨g, 0, none⟩ := by
  rcases h.2.1.2 with ⟨_, h2⟩ | ⟨g, cap, cur, h1, _⟩
  · exact absurd (List.eq_nil_of_length_eq_zero h2) hl
  · injection h1 with h1; exact ⟨g, h1⟩
set_option maxRecDepth 100000 in
set_option maxHeartbeats 4000000 in
theorem rest_nil (p : LQ) (w0 w : World) (head : List Dm) (ll : List (List Dm)) (hh : head.length ≤ 100) (hll : ll.length ≤ 1000) (h : EA p w0 w head ll) :
    Calls Try.prog 205 #[.int .u64 0, .pointer (some ⟨p.bc, 0, none⟩), .pointer (some ⟨p.bl, 0, none⟩), .pointer (some ⟨p.br, 0, none⟩)] w fun e w' => e = .returned (.tuple #[]) ∧ EA p w0 w' head (ll ++ [head]) ∧ Kp w w' := by
  obtain ⟨A, c, A', c', k1, k2, k3, k4, k5⟩ := id h.st
  have H := Lib.hid h
  have K2 := Lib.hid k2
  have e1 := k1.c1
  have e2 := h.cb.c1
  obtain ⟨n, hn⟩ : ∃ n, n = head.length := ⟨_, rfl⟩
  have HN := Lib.hid hn
  rw [← hn] at e1 hh
  have hh2 : n ≤ 1048576 := by omega
  have hl2 : ll.length ≤ 1048576 := by omega
  clear k1 k2 k3 k4 k5 h hn
  go_enter Try.func205, Try.ntmps205
  go_wp2_with (go_at_call 186; refine (cb_any p w0 _ head ll A n c HN.out hh2 hl2 H.out K2.out.rd).mono ?_; rintro e w1 ⟨rfl, h1, h2⟩)
  first
    | exact bodyPost_ret (results_none rfl _ _ _) rfl ⟨rfl, h1, h2⟩
    | exact bodyPost_end (results_none rfl _ _ _) rfl ⟨rfl, h1, h2⟩
set_option maxRecDepth 100000 in
set_option maxHeartbeats 8000000 in
theorem rest_succ (p : LQ) (w0 : World) (f : Nat)
    (ih : ∀ (s : Nat) (head : List Dm) (ll : List (List Dm)) (w : World), s < 18446744073709551616 → card s ≤ f → head.length + f ≤ 100 → (ll ++ (tils f s).map (head ++ ·)).length ≤ 1000 → EA p w0 w head ll →
      Calls Try.prog 205 #[.int .u64 s, .pointer (some ⟨p.bc, 0, none⟩), .pointer (some ⟨p.bl, 0, none⟩), .pointer (some ⟨p.br, 0, none⟩)] w fun e w' => e = .returned (.tuple #[]) ∧ EA p w0 w' head (ll ++ (tils f s).map (head ++ ·)) ∧ Kp w w')
    (s : Nat) (head : List Dm) (ll : List (List Dm)) (w : World) (hs : s < 18446744073709551616) (h0 : s ≠ 0) (hc : card s ≤ f + 1) (hf : head.length + (f + 1) ≤ 100) (hlen : (ll ++ (tils (f + 1) s).map (head ++ ·)).length ≤ 1000) (h : EA p w0 w head ll) :
    Calls Try.prog 205 #[.int .u64 s, .pointer (some ⟨p.bc, 0, none⟩), .pointer (some ⟨p.bl, 0, none⟩), .pointer (some ⟨p.br, 0, none⟩)] w fun e w' => e = .returned (.tuple #[]) ∧ EA p w0 w' head (ll ++ (tils (f + 1) s).map (head ++ ·)) ∧ Kp w w' := by
  have hsb : ((s : Int) == 0) = false := by
    have : (s : Int) ≠ 0 := by omega
    simpa using this
  have H := Lib.hid h
  obtain ⟨q, hq⟩ : ∃ q, q = lowb s := ⟨_, rfl⟩
  have hq64 : q < 64 := by rw [hq]; exact (lowb_spec hs h0).1
  obtain ⟨cx, hcx⟩ : ∃ cx, cx = (cellOf q).1 := ⟨_, rfl⟩
  obtain ⟨cy, hcy⟩ : ∃ cy, cy = (cellOf q).2 := ⟨_, rfl⟩
  have hg := cellOf_i64 q hq64
  rw [← hcx, ← hcy] at hg
  have HFC := Lib.hid (show ∀ w : World, Calls Try.prog 191 #[.int .u64 (s : Int)] w fun e w' => e = .returned (.agg #[.int .i64 cx, .int .i64 cy]) ∧ Below w.heap.size w w' from fun w => by rw [hcx, hcy, hq]; exact firstCell_any s w hs h0)
  have HD := Lib.hid (show ∀ z, dmAt (lowb s) z = (cx, cy, z) from fun z => by rw [← hq, hcx, hcy]; rfl)
  have HT := Lib.hid (partT_two f h0)
  have HL := Lib.hid hlen
  have HI := Lib.hid ih
  have HC := Lib.hid hc
  have HS0 := Lib.hid h0
  clear h hq hcx hcy hlen ih hc h0
  go_enter Try.func205, Try.ntmps205
  go_upto_region 4 with (go_at_call 191; refine (HFC.out _).mono ?_; rintro e w1 ⟨rfl, hb1⟩; have H1 := Lib.hid (H.out.bel hb1); have K1 := Lib.hid (Kp.bel hb1); clear hb1)
  have hx1 := bl_alloc (bl_alloc (Below.refl w1.heap.size w1) (.cells #[.int .i64 cx, .int .i64 cy] 35)) (.cells #[.bool false, .bool true] 4)
  have C1 := Lib.hid ((Blk.new w1 35 [.int .i64 cx, .int .i64 cy]).alloc (.cells #[.bool false, .bool true] 4))
  have B1 := Lib.hid (Blk.new2 w1 (.cells #[.int .i64 cx, .int .i64 cy] 35) 4 [.bool false, .bool true])
  replace H1 := Lib.hid (H1.out.bel hx1)
  replace K1 := Lib.hid (K1.out.trans (Kp.bel hx1))
  clear hx1
  obtain ⟨gc, hgc⟩ : ∃ gc, gc = w1.heap.size := ⟨_, rfl⟩
  obtain ⟨W, hW⟩ : ∃ W, W = (w1.alloc (.cells #[.int .i64 cx, .int .i64 cy] 35)).alloc (.cells #[.bool false, .bool true] 4) := ⟨_, rfl⟩
  rw [← hgc] at C1 B1 ⊢
  rw [← hW] at C1 B1 H1 K1 ⊢
  clear hgc hW H HFC
  go_loopw [18] (fun i wr => ∃ k : Nat, k ≤ 2 ∧ i = .int .i64 k ∧ Hid (EA p w0 wr head (ll ++ (partT f s k).map (head ++ ·))) ∧ Hid (Kp W wr)) (fun i _ => 2 - (intOf i).toNat)
  case atStart => exact ⟨0, by omega, rfl, by rw [partT, List.map_nil, List.append_nil]; exact H1, Lib.hid (Kp.refl W)⟩
  case round =>
    obtain ⟨k, hk, rfl, HE, HK⟩ := hrel
    clear H1
    by_cases hk2 : k < 2
    · obtain ⟨LK, hLK⟩ : ∃ LK, LK = ll ++ (partT f s k).map (head ++ ·) := ⟨_, rfl⟩
      rw [← hLK] at HE
      have HLK := Lib.hid hLK
      have HPL := Lib.hid (part_len f s k hk2)
      clear hLK
      obtain ⟨z, hz⟩ : ∃ z : Bool, z = decide (k = 1) := ⟨_, rfl⟩
      have HP := Lib.hid (show partT f s (k + 1) = partT f s k ++ tilD f s z by rw [partT_succ f s k hk2, hz])
      have b0 : wr.cell? ⟨gc + 1, k, none⟩ = some (.bool z) := by
        have h2 := (B1.out.kp HK.out (by decide) (by decide) (by decide)).cell k
        have h3 : k = 0 ∨ k = 1 := by omega
        rcases h3 with rfl | rfl
        · rw [hz]; exact h2
        · rw [hz]; exact h2
      have hk0 : (0 : Int) ≤ (k : Int) := by omega
      have hk1 : (k : Int) < 2 := by omega
      have c2 := (C1.out.kp HK.out (by decide) (by decide) (by decide)).c2
      obtain ⟨A, c, A', c', k1, k2, k3, k4, k5⟩ := id HE.out.st
      have hown := Lib.hid k2.2.1.lt
      have hx2 := bl_alloc (Below.refl wr.heap.size wr) (.cells #[.int .i64 cx, .int .i64 cy, .bool z] 53)
      have D2 := Blk.new wr 53 [.int .i64 cx, .int .i64 cy, .bool z]
      have Q1 := Lib.hid (k1.bel hx2)
      have Q2 := Lib.hid (k2.bel hx2)
      have Q3 := Lib.hid (k3.bel hx2)
      have Q4 := Lib.hid (k4.bel hx2)
      have Q5 := Lib.hid k5
      have HE2 := Lib.hid (HE.out.bel hx2)
      have HK2 := Lib.hid (HK.out.trans (Kp.bel hx2))
      have HZ := Lib.hid (HD.out z)
      rw [← hz] at HPL
      clear k1 k2 k3 k4 k5 hx2 hz
      go_upto_region 7 with fail
      clear b0 c2
      obtain ⟨gd, hgd⟩ : ∃ gd, gd = wr.heap.size := ⟨_, rfl⟩
      obtain ⟨W2, hW2⟩ : ∃ W2, W2 = wr.alloc (.cells #[.int .i64 cx, .int .i64 cy, .bool z] 53) := ⟨_, rfl⟩
      rw [← hgd] at D2 hown ⊢
      rw [← hW2] at D2 Q1 Q2 Q3 Q4 HE2 HK2 ⊢
      clear hgd hW2 HE HK
      have d0 := bq_cell D2.c3.1
      have d1 := bq_cell D2.c3.2.1
      have d2 := bq_cell D2.c3.2.2
      cases hok : okD (cx, cy, z)
      · have HOK := Lib.hid (show domOk cx cy z = false from hok)
        have HTn := Lib.hid (show tilD f s z = [] from tilD_n_ (by rw [HZ.out]; unfold fitD; rw [hok]; rfl))
        clear hok
        go_wp2_with fail
        (refine wp_region_quiet_bel (by kernel_rfl) (by kernel_rfl) ?_; (repeat (first | go_big_quiet_step ((go_at_call 143; exact Calls.bel_of ((DominoOk_i cx cy z _).mono (fun e w' h => ⟨h.1.trans (ret_bool HOK.out), h.2⟩)))) | quiet_step ((go_at_call 143; exact Calls.bel_of ((DominoOk_i cx cy z _).mono (fun e w' h => ⟨h.1.trans (ret_bool HOK.out), h.2⟩)))))); refine wpQuiet_nil ?_; intro wq hw0; obtain ⟨⟨_, hbq⟩, hw1⟩ := hw0; subst hw1; try dsimp only)
        go_wp2_with fail
        go_roundw
        case rel => exact ⟨k + 1, by omega, by go_num, by rw [HP.out, HTn.out, List.append_nil, ← HLK.out]; exact Lib.hid (HE2.out.bel hbq), Lib.hid (HK2.out.trans (Kp.bel hbq))⟩
        case measure => simp [intOf]; omega
      · have HOK := Lib.hid (show domOk cx cy z = true from hok)
        obtain ⟨o, ho⟩ : ∃ o, ownD (cx, cy, z) = o := ⟨_, rfl⟩
        have hol : o < 18446744073709551616 := by rw [← ho]; exact ownD_lt hok
        have HO := Lib.hid ho
        have HO2 := Lib.hid hok
        have hand := u64_and_nat s o hs hol
        obtain ⟨fb, hfb⟩ : ∃ fb : Bool, (s &&& o == o) = fb := ⟨_, rfl⟩
        have hfbi : (((s &&& o : Nat) : Int) == (o : Int)) = fb := by rw [beq_cast]; exact hfb
        have HF := Lib.hid hfb
        clear hok ho hfb
        cases fb
        · have HTn := Lib.hid (show tilD f s z = [] from tilD_n_ (by rw [HZ.out]; unfold fitD; rw [HO2.out, HO.out, HF.out]; rfl))
          go_wp2_with fail
          (refine wp_region_quiet_bel (by kernel_rfl) (by kernel_rfl) ?_; (repeat (first | go_big_quiet_step (first | (go_at_call 143; exact Calls.bel_of ((DominoOk_i cx cy z _).mono (fun e w' h => ⟨h.1.trans (ret_bool HOK.out), h.2⟩))) | (go_at_call 190; exact Calls.bel_of (dset_d cx cy z o _ HO2.out HO.out))) | quiet_step (first | (go_at_call 143; exact Calls.bel_of ((DominoOk_i cx cy z _).mono (fun e w' h => ⟨h.1.trans (ret_bool HOK.out), h.2⟩))) | (go_at_call 190; exact Calls.bel_of (dset_d cx cy z o _ HO2.out HO.out))))); refine wpQuiet_nil ?_; intro wq hw0; obtain ⟨⟨_, hbq⟩, hw1⟩ := hw0; subst hw1; try dsimp only)
          go_wp2_with fail
          go_roundw
          case rel => exact ⟨k + 1, by omega, by go_num, by rw [HP.out, HTn.out, List.append_nil, ← HLK.out]; exact Lib.hid (HE2.out.bel hbq), Lib.hid (HK2.out.trans (Kp.bel hbq))⟩
          case measure => simp [intOf]; omega
        · go_wp2_with fail
          (refine wp_region_quiet_bel (by kernel_rfl) (by kernel_rfl) ?_; (repeat (first | go_big_quiet_step (first | (go_at_call 143; exact Calls.bel_of ((DominoOk_i cx cy z _).mono (fun e w' h => ⟨h.1.trans (ret_bool HOK.out), h.2⟩))) | (go_at_call 190; exact Calls.bel_of (dset_d cx cy z o _ HO2.out HO.out))) | quiet_step (first | (go_at_call 143; exact Calls.bel_of ((DominoOk_i cx cy z _).mono (fun e w' h => ⟨h.1.trans (ret_bool HOK.out), h.2⟩))) | (go_at_call 190; exact Calls.bel_of (dset_d cx cy z o _ HO2.out HO.out))))); refine wpQuiet_nil ?_; intro wq hw0; obtain ⟨⟨_, hbq⟩, hw1⟩ := hw0; subst hw1; try dsimp only)
          obtain ⟨s2, hs2⟩ : ∃ s2, s2 = bdiff s o := ⟨_, rfl⟩
          have hs2l : s2 < 18446744073709551616 := by rw [hs2]; exact bdiff_lt hs
          have handn : bits BinOp.andNot IntKind.u64 (s : Int) (o : Int) = (s2 : Int) := by rw [hs2]; exact u64_andNot_nat s o hs hol
          have hsub : s &&& o = o := by have := HF.out; simpa using this
          have hone : o ≠ 0 := by
            intro e0
            have := (own_min HO2.out).2.1
            rw [HO.out, e0] at this; simp at this
          have HC2 := Lib.hid (show card s2 ≤ f by rw [hs2]; exact sub_card hs hol hsub hone HC.out)
          have HTy := Lib.hid (show tilD f s z = (tils f s2).map ((cx, cy, z) :: ·) by
            have h1 : fitD s (dmAt (lowb s) z) = true := by rw [HZ.out]; unfold fitD; rw [HO2.out, HO.out, HF.out]; rfl
            rw [tilD_y_ h1, HZ.out, HO.out, ← hs2])
          have HEqn := Lib.hid (show ll ++ (partT f s (k + 1)).map (head ++ ·) = LK ++ (tils f s2).map ((head ++ [(cx, cy, z)]) ++ ·) by rw [HP.out, HTy.out, part_app, ← HLK.out])
          have HL2 := Lib.hid (show (LK ++ (tils f s2).map ((head ++ [(cx, cy, z)]) ++ ·)).length ≤ 1000 by
            have h1 := HL.out
            have h2 := HPL.out
            rw [HT.out, List.length_append, List.length_map] at h1
            rw [HTy.out, List.length_map] at h2
            rw [HLK.out, List.length_append, List.length_append, List.length_map, List.length_map]; omega)
          have hf2 : (head ++ [(cx, cy, z)]).length + f ≤ 100 := by rw [List.length_append]; simp; omega
          have hhl : head.length ≤ 1048576 := by omega
          have hnl : (head ++ [(cx, cy, z)]).length = head.length + 1 := by simp
          have Hnl := Lib.hid hnl
          have hzq : w0.heap.size ≤ wq.heap.size := Nat.le_trans HE2.out.b.size hbq.size
          have HEq := Lib.hid (HE2.out.bel hbq)
          have HKq := Lib.hid (HK2.out.trans (Kp.bel hbq))
          have R1 := Lib.hid (Q1.out.bel hbq)
          have R2 := Lib.hid (Q2.out.bel hbq)
          have R3 := Lib.hid (Q3.out.bel hbq)
          have R4 := Lib.hid (Q4.out.bel hbq)
          have DQ := Lib.hid (D2.bel hbq)
          have r1 := R1.out.c1
          have dd := DQ.out.c3
          clear hs2 hsub hone hand hfbi hnl D2 Q1 Q2 Q3 Q4 HE2 HK2 hbq d0 d1 d2 HL HPL HT
          go_upto_region 9 with (at_builtin; refine wpList_atD rfl (.tmp 39) (.tmp 41) rfl w0.heap.size (.slice A head.length c) head cx cy z rfl rfl R2.out hzq hhl hg.1 hg.2 ?_; intro v' w3 o3 b3 gr3 at3 sz3; obtain ⟨⟨A1, c1', rfl⟩, _⟩ := id o3; have l1 := R1.out.keepT gr3 (own_typ R2.out.2.1) (by decide); have l2 := l1.c1; have l3 := l1.frozen 0; have L1 := Lib.hid l1; have O3 := Lib.hid o3; have B3 := Lib.hid b3; have G3 := Lib.hid gr3; have AT3 := Lib.hid at3; clear l1 o3 b3 gr3 at3)
          have HP4 := Lib.hid (HEq.out.push R1.out R2.out R3.out R4.out Q5.out O3.out (B3.out _ HEq.out.b) G3.out AT3.out)
          have hgd : p.bl ≠ gd := R1.out.neT DQ.out (by decide)
          have D4 := Lib.hid (((show Blk w3 gd 53 [.int .i64 cx, .int .i64 cy, .bool z] from (G3.out.block gd DQ.out.lt (fun e => by have := (hown.out gd e.symm).2; omega)).trans DQ.out)).farN p.bl 0 (fun e => hgd e.symm) (.slice A1 (head ++ [(cx, cy, z)]).length c1'))
          rw [Hnl.out] at HP4 D4
          obtain ⟨W4, hW4⟩ : ∃ W4, W4 = w3.setCell ⟨p.bl, 0, none⟩ (.slice A1 (head.length + 1) c1') := ⟨_, rfl⟩
          rw [← hW4] at HP4 D4 ⊢
          clear hW4 L1 l2 l3 O3 B3 G3 AT3 R1 R2 R3 R4 DQ r1 dd HEq sz3 hown Q5
          have H4 := Lib.hid HP4.out.1
          have K4 := Lib.hid (HKq.out.trans HP4.out.2)
          clear HP4 HKq
          have hdr : Below W4.heap.size W4 W4.drew := by go_grown
          have e4 := H4.out.rb.c1
          have dd := D4.out.c3
          obtain ⟨hd2, hhd2⟩ : ∃ hd2, hd2 = head ++ [(cx, cy, z)] := ⟨_, rfl⟩
          have Hhd := Lib.hid hhd2
          rw [← hhd2] at H4 HEqn HL2 Hnl hf2
          clear hhd2
          obtain ⟨LM, hLM⟩ : ∃ LM, LM = LK ++ (tils f s2).map (hd2 ++ ·) := ⟨_, rfl⟩
          have HLM := Lib.hid hLM
          have HLL := Lib.hid HL2.out
          rw [← hLM] at HEqn
          clear hLM HL2
          go_upto_region 9 with fail
          go_cut [48] from 43 to 48 (fun _ wx => Hid (EA p w0 wx hd2 LM) ∧ Hid (Kp W wx))
          case first =>
            go_region_with (first
              | (go_at_call 190; refine (dset_d cx cy z o _ HO2.out HO.out).mono ?_; rintro e w5 ⟨rfl, hb5⟩; have hb6 := bl_trans hdr hb5; have H5 := Lib.hid (H4.out.bel hb6); have K5 := Lib.hid (K4.out.trans (Kp.bel hb6)); have e5 := H5.out.rb.c1; clear hb5 hb6)
              | (go_at_call 205; refine (HI.out s2 hd2 LK _ hs2l HC2.out hf2 HLL.out H5.out).mono ?_; rintro e w6 ⟨rfl, h6, k6⟩; have H6 := Lib.hid (show EA p w0 w6 hd2 LM by rw [HLM.out]; exact h6); have K6 := Lib.hid (K5.out.trans k6); clear h6 k6))
            all_goals (go_wp2_with fail; go_meet; exact ⟨H6, K6⟩)
          case rest =>
            obtain ⟨H6, K6⟩ := hcut
            have hh := Hhd.out
            subst hh
            obtain ⟨A6, c6, A7, c7, u1, u2, u3, u4, u5⟩ := id H6.out.st
            obtain ⟨g6, rfl⟩ := u2.somed (by simp)
            have hcap := u2.capd
            have x1 := u1.c1
            rw [Hnl.out] at x1 hcap
            have x2 := u1.frozen 0
            have HPOP := Lib.hid (H6.out.pop u1 u2 u3 u4 u5)
            have hwn : IntKind.i64.wrap (((head.length + 1 : Nat) : Int) - 1) = (head.length : Int) := by rw [wrap_i64, IntWalk.wrap64_in _ (by omega)]; omega
            have hn0 : (0 : Int) ≤ (head.length : Int) := by omega
            have hn1 : (head.length : Int) ≤ (c6 : Int) := by omega
            clear u1 u2 u3 u4 u5 H6 D4 e4 dd H4 hf2
            go_wp2_with fail
            go_roundw
            case rel => exact ⟨k + 1, by omega, by go_num, by rw [HEqn.out]; exact Lib.hid HPOP.out.1, Lib.hid (K6.out.trans HPOP.out.2)⟩
            case measure => simp [intOf]; omega
    · obtain rfl : k = 2 := by omega
      have HK3 := Lib.hid (K1.out.trans HK.out)
      have HE3 := Lib.hid (show EA p w0 wr head (ll ++ (tils (f + 1) s).map (head ++ ·)) by rw [HT.out]; exact HE.out)
      clear HE HK
      go_wp2_with fail
      exact bodyPost_end (results_none rfl _ _ _) rfl ⟨rfl, HE3.out, HK3.out⟩
theorem rest_any (p : LQ) (w0 : World) : ∀ (f s : Nat) (head : List Dm) (ll : List (List Dm)) (w : World), s < 18446744073709551616 → card s ≤ f → head.length + f ≤ 100 → (ll ++ (tils f s).map (head ++ ·)).length ≤ 1000 → EA p w0 w head ll →
      Calls Try.prog 205 #[.int .u64 s, .pointer (some ⟨p.bc, 0, none⟩), .pointer (some ⟨p.bl, 0, none⟩), .pointer (some ⟨p.br, 0, none⟩)] w fun e w' => e = .returned (.tuple #[]) ∧ EA p w0 w' head (ll ++ (tils f s).map (head ++ ·)) ∧ Kp w w' := by
  intro f
  induction f with
  | zero =>
    intro s head ll w hs hc hf hl h
    have h0 : s = 0 := (card_zero hs).1 (by omega)
    subst h0
    rw [tils_zero] at hl ⊢
    rw [List.length_append] at hl
    have := rest_nil p w0 w head ll (by omega) (by omega) h
    simpa using this
  | succ f ih =>
    intro s head ll w hs hc hf hl h
    by_cases h0 : s = 0
    · subst h0
      rw [tils_zero] at hl ⊢
      rw [List.length_append] at hl
      have := rest_nil p w0 w head ll (by omega) (by omega) h
      simpa using this
    · exact rest_succ p w0 f ih s head ll w hs h0 hc hf hl h
/-- a list of owned lists in blocks of their own -/
def ItD (B : Nat) (w : World) (A : Option Addr) (ll : List (List Dm)) : Prop := ∃ vs : List Value, Rd w 1 A ll.length vs ∧ ∀ (i : Nat) (l : List Dm), ll[i]? = some l → ∃ g c, vs[i]? = some (.slice (some ⟨g, 0, none⟩) l.length c) ∧ OwD B w (.slice (some ⟨g, 0, none⟩) l.length c) l
set_option maxRecDepth 100000 in
set_option maxHeartbeats 4000000 in
theorem each_any (w0 w : World) (go A' c' : Nat) (R : Nat) (hR : R < 18446744073709551616) (hl : (tils 64 R).length ≤ 900) (k3 : Blk w go 125 [.slice (some ⟨A', 0, none⟩) 0 c']) (k4 : OwX none w0.heap.size w (.slice (some ⟨A', 0, none⟩) 0 c') []) (hb : Below w0.heap.size w0 w) (hgo : w0.heap.size ≤ go) :
    Calls Try.prog 185 #[.int .u64 R, .func (.func 186) #[] #[.pointer (some ⟨go, 0, none⟩)]] w fun e w' => e = .returned (.tuple #[]) ∧ Kp w w' ∧ Below w0.heap.size w0 w' ∧ ∃ A c, Blk w' go 125 [.slice A (tils 64 R).length c] ∧ ∃ ob, OwX ob w0.heap.size w' (.slice A (tils 64 R).length c) (tils 64 R) := by
  obtain ⟨W3, hW3⟩ : ∃ W3, W3 = ((w.alloc (.cells #[.func (.func 186) #[] #[.pointer (some ⟨go, 0, none⟩)]] 174)).alloc (.cells #[] 53)).alloc (.cells #[.slice (some ⟨w.heap.size + 1, 0, none⟩) 0 0] 46) := ⟨_, rfl⟩
  have hs3 : W3.heap.size = w.heap.size + 1 + 1 + 1 := by rw [hW3]; simp
  have hx3 : Below w.heap.size w W3 := by rw [hW3]; exact bl_alloc (bl_alloc (bl_alloc (Below.refl _ _) _) _) _
  have b1 : Blk W3 w.heap.size 174 [.func (.func 186) #[] #[.pointer (some ⟨go, 0, none⟩)]] := by rw [hW3]; exact ((Blk.new w _ _).alloc _).alloc _
  have o1 : OwD w.heap.size W3 (.slice (some ⟨w.heap.size + 1, 0, none⟩) 0 0) [] := by
    rw [hW3]
    have := OwD.new_ (B := w.heap.size) (w := w.alloc (.cells #[.func (.func 186) #[] #[.pointer (some ⟨go, 0, none⟩)]] 174)) (by simp)
    rw [World.size_alloc] at this
    exact this.alloc' _
  have b2 : Blk W3 (w.heap.size + 1 + 1) 46 [.slice (some ⟨w.heap.size + 1, 0, none⟩) 0 0] := by
    rw [hW3]
    have := Blk.new ((w.alloc (.cells #[.func (.func 186) #[] #[.pointer (some ⟨go, 0, none⟩)]] 174)).alloc (.cells #[] 53)) 46 [.slice (some ⟨w.heap.size + 1, 0, none⟩) 0 0]
    rw [World.size_alloc, World.size_alloc] at this
    exact this
  have hx4 : Below w.heap.size w (W3.alloc (.cells #[.nilFunc] 183)) := bl_alloc hx3 _
  have b3 : Blk (W3.alloc (.cells #[.nilFunc] 183)) (w.heap.size + 1 + 1 + 1) 183 [.nilFunc] := by
    have := Blk.new W3 183 [.nilFunc]
    rw [hs3] at this
    exact this
  have hx5 : Below w.heap.size w (W3.alloc (.cells #[.func (.func 205) #[] #[.pointer (some ⟨w.heap.size, 0, none⟩), .pointer (some ⟨w.heap.size + 1 + 1, 0, none⟩), .pointer (some ⟨w.heap.size + 1 + 1 + 1, 0, none⟩)]] 183)) := bl_alloc hx3 _
  have b5 : Blk (W3.alloc (.cells #[.func (.func 205) #[] #[.pointer (some ⟨w.heap.size, 0, none⟩), .pointer (some ⟨w.heap.size + 1 + 1, 0, none⟩), .pointer (some ⟨w.heap.size + 1 + 1 + 1, 0, none⟩)]] 183)) (w.heap.size + 1 + 1 + 1) 183 [.func (.func 205) #[] #[.pointer (some ⟨w.heap.size, 0, none⟩), .pointer (some ⟨w.heap.size + 1 + 1, 0, none⟩), .pointer (some ⟨w.heap.size + 1 + 1 + 1, 0, none⟩)]] := by
    have := Blk.new W3 183 [.func (.func 205) #[] #[.pointer (some ⟨w.heap.size, 0, none⟩), .pointer (some ⟨w.heap.size + 1 + 1, 0, none⟩), .pointer (some ⟨w.heap.size + 1 + 1 + 1, 0, none⟩)]]
    rw [hs3] at this
    exact this
  have HE := Lib.hid (show EA ⟨w.heap.size, w.heap.size + 1 + 1, w.heap.size + 1 + 1 + 1, go⟩ w0 (W3.alloc (.cells #[.func (.func 205) #[] #[.pointer (some ⟨w.heap.size, 0, none⟩), .pointer (some ⟨w.heap.size + 1 + 1, 0, none⟩), .pointer (some ⟨w.heap.size + 1 + 1 + 1, 0, none⟩)]] 183)) [] [] from by
    have hgl := k3.lt
    have hzw := hb.size
    refine ⟨b1.alloc _, b5, ⟨some ⟨w.heap.size + 1, 0, none⟩, 0, some ⟨A', 0, none⟩, c', b2.alloc _, (o1.mono hzw).alloc' _, k3.bel hx5, ?_, fun k hk => ?_⟩, hb.trans (hx5.mono hzw), ⟨by show w0.heap.size ≤ w.heap.size + 1 + 1; omega, hgo, by show go ≠ w.heap.size + 1 + 1; omega⟩⟩
    · obtain ⟨hf, vs, h1, h2⟩ := k4.bel hx5
      exact ⟨hf, vs, h1, fun i l hl => by simp at hl⟩
    · have := (OwS.rng k4 k hk).2
      show k ≠ w.heap.size + 1 + 1
      omega)
  have HKp := Lib.hid (show Kp w (W3.alloc (.cells #[.func (.func 205) #[] #[.pointer (some ⟨w.heap.size, 0, none⟩), .pointer (some ⟨w.heap.size + 1 + 1, 0, none⟩), .pointer (some ⟨w.heap.size + 1 + 1 + 1, 0, none⟩)]] 183)) from Kp.bel hx5)
  have s1 := b3.c1
  have s2 := b3.frozen 0
  have HCC := Lib.hid (show card R ≤ 64 from by have := card_cells R; rw [← this]; exact cellsBy_len _ _)
  have HL := Lib.hid hl
  rw [hW3] at HE HKp s1 s2
  have e5 := HE.out.rb.c1
  clear k3 k4 hb hx3 hx4 hx5 b1 o1 b2 b3 b5 hs3 hW3 hl
  go_enter Try.func185, Try.ntmps185
  go_wp2_with (go_at_call 205; refine (rest_any ⟨w.heap.size, w.heap.size + 1 + 1, w.heap.size + 1 + 1 + 1, go⟩ w0 64 R [] [] _ hR HCC.out (by simp) (by have := HL.out; rw [List.nil_append, List.length_map]; omega) HE.out).mono ?_; rintro e w6 ⟨rfl, h6, k6⟩; have H6 := Lib.hid h6; have K6 := Lib.hid k6; clear h6 k6)
  have e7 : ([] : List (List Dm)) ++ (tils 64 R).map (([] : List Dm) ++ ·) = tils 64 R := by
    rw [List.nil_append]
    exact List.map_id'' (fun x => List.nil_append x) _
  have H7 := H6.out
  rw [e7] at H7
  obtain ⟨A6, c6, A7, c7, u1, u2, u3, u4, u5⟩ := H7.st
  first
    | exact bodyPost_end (results_none rfl _ _ _) rfl ⟨rfl, HKp.out.trans K6.out, H7.b, A7, c7, u3, _, u4⟩
    | exact bodyPost_ret (results_none rfl _ _ _) rfl ⟨rfl, HKp.out.trans K6.out, H7.b, A7, c7, u3, _, u4⟩
theorem OwX.it {ob : Option Nat} {B : Nat} {w : World} {A : Option Addr} {c n : Nat} {ll : List (List Dm)} (h : OwX ob B w (.slice A n c) ll) : ItD B w A ll := by
  obtain ⟨⟨A1, c1, e⟩, vs, h1, h2⟩ := h
  injection e with e1 e2 e3
  subst e2
  refine ⟨vs, Rd.of_own h1, fun i l hl => ?_⟩
  obtain ⟨u, hu, ho, k, hk, _⟩ := h2 i l hl
  obtain ⟨A2, c2, rfl⟩ := ho.1
  rcases ho.2.1.2 with ⟨e, _⟩ | ⟨g, cap, cur, e, _⟩
  · injection e with e _ _; subst e; cases hk
  · injection e with e e3 e4
    subst e; subst e4
    exact ⟨g, c2, hu, ho⟩
theorem ItD.nil_ (B : Nat) (w : World) : ItD B w none [] := ⟨[], ⟨by simp, fun h => absurd h (by simp)⟩, fun i l hl => by simp at hl⟩
set_option maxRecDepth 100000 in
set_option maxHeartbeats 4000000 in
theorem ListTilings_i (A : Option Addr) (c : Nat) (l : List Int) (w : World) (hl : l.length ≤ 1048576) (hr : RdI w A l) :
    Calls Try.prog 106 #[.agg #[.slice A l.length c]] w fun e w' => ∃ A' c', e = .returned (.slice A' (listT l).length c') ∧ ItD w.heap.size w' A' (listT l) ∧ Below w.heap.size w w' := by
  (have hB := Below.refl w.heap.size w; have P := Blk.new w 31 [.slice A l.length c]; have Pc := P.c1)
  have hr' := Lib.hid hr
  obtain ⟨v, hv⟩ : ∃ v, cntT l = v := ⟨_, rfl⟩
  have HV := Lib.hid hv
  clear hr
  cases hin : inB v 1 300
  · have HIN := Lib.hid hin
    have HE := Lib.hid (show listT l = [] by unfold listT; rw [hv, hin]; rfl)
    clear hin hv
    go_enter Try.func106, Try.ntmps106
    go_upto_region 1 with fail
    go_wp2_with (first
      | (go_at_call 184; refine (CountTilings_i A c l _ hl (hr'.out.below (bl_trans hB (by go_grown))) v HV.out).mono ?_; rintro e wn ⟨rfl, hbn⟩; have hSz := bl_sz (bl_trans hB (by go_grown)) hbn; replace hB := bl_trans (bl_trans hB (by go_grown)) hbn; replace P := P.bel (bl_trans (by go_grown) hbn); replace Pc := P.c1; clear hbn)
      | (go_at_call 89; refine (within_any v 1 300 _).mono ?_; rintro e wn ⟨rfl, rfl⟩; rw [HIN.out]))
    go_ret
    exact ⟨none, 0, by rw [HE.out]; rfl, by rw [HE.out]; exact ItD.nil_ _ _, hB⟩
  · have HIN := Lib.hid hin
    obtain ⟨hreg, hT, hlen⟩ := listT_yes (rs := l) (by rw [hv]; exact hin)
    have hlt := regSet_lt hreg
    obtain ⟨S, hS⟩ : ∃ S, regSet l = S := ⟨_, rfl⟩
    rw [hS] at hT hlen hlt
    have HK := Lib.hid hreg
    have HSS := Lib.hid hS
    have HT := Lib.hid hT
    have HLn := Lib.hid (show (tils 64 S).length ≤ 900 by omega)
    have HLT := Lib.hid hlt
    clear hin hv hreg hT hlen hlt hS
    go_enter Try.func106, Try.ntmps106
    go_upto_region 4 with (first
      | (go_at_call 184; refine (CountTilings_i A c l _ hl (hr'.out.below (bl_trans hB (by go_grown))) v HV.out).mono ?_; rintro e wx ⟨rfl, hbn⟩; have hSz := bl_sz (bl_trans hB (by go_grown)) hbn; replace hB := bl_trans (bl_trans hB (by go_grown)) hbn; replace P := P.bel (bl_trans (by go_grown) hbn); replace Pc := P.c1; clear hbn)
      | (go_at_call 89; refine (within_any v 1 300 _).mono ?_; rintro e wn ⟨rfl, rfl⟩; rw [HIN.out]))
    have O0 := Lib.hid (show OwX none w.heap.size ((wx.alloc (.cells #[] 46)).alloc (.cells #[.slice (some ⟨wx.heap.size, 0, none⟩) 0 0] 125)) (.slice (some ⟨wx.heap.size, 0, none⟩) 0 0) [] from OwX.bel (OwS.new_ _ _ hB.size) (bl_alloc (Below.refl _ _) _))
    have G0 := Blk.new (wx.alloc (.cells #[] 46)) 125 [.slice (some ⟨wx.heap.size, 0, none⟩) 0 0]
    rw [World.size_alloc] at G0
    have hsx := hB.size
    have hx := bl_alloc (bl_alloc (Below.refl wx.heap.size wx) (.cells #[] 46)) (.cells #[.slice (some ⟨wx.heap.size, 0, none⟩) 0 0] 125)
    replace P := P.bel hx
    replace Pc := P.c1
    replace hB := bl_trans hB hx
    obtain ⟨go, hgo⟩ : ∃ go, go = wx.heap.size + 1 := ⟨_, rfl⟩
    obtain ⟨g0, hg0⟩ : ∃ g0, g0 = wx.heap.size := ⟨_, rfl⟩
    obtain ⟨W, hW⟩ : ∃ W, W = (wx.alloc (.cells #[] 46)).alloc (.cells #[.slice (some ⟨wx.heap.size, 0, none⟩) 0 0] 125) := ⟨_, rfl⟩
    rw [← hW] at O0 G0 P Pc hB ⊢
    have hgo2 : w.heap.size ≤ go := by omega
    rw [← hgo] at G0 ⊢
    rw [← hg0] at O0 G0
    clear hW hx hgo
    have R1 := Lib.hid (hr'.out.below hB)
    have G1 := Lib.hid G0
    have HB := Lib.hid hB
    clear hB G0 hg0
    go_wp2_with (first
      | (go_at_call 121; refine (rset_eq A c l _ HK.out R1.out S HSS.out).mono ?_; rintro e w3 ⟨rfl, hb3⟩; have O3 := Lib.hid (O0.out.bel hb3); have G3 := Lib.hid (G1.out.bel hb3); have HB3 := Lib.hid (bl_trans HB.out hb3); clear hb3)
      | (go_at_call 185; refine (each_any w _ go g0 0 S HLT.out HLn.out G3.out O3.out HB3.out hgo2).mono ?_; rintro e w4 ⟨rfl, hk4, hb4, A4, c4, u4, ob, x4⟩; have u5 := u4.c1; have X4 := Lib.hid x4.it; have HB4 := Lib.hid hb4; clear hk4 hb4 x4))
    go_ret
    exact ⟨A4, c4, by rw [HT.out]; rfl, by rw [HT.out]; exact X4.out, HB4.out⟩
end Go.Proofs.Ytdcjhfmkkcakhaa

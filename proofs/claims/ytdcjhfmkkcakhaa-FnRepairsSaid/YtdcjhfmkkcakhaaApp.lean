/-
  The law on append with a whole slice as its source (nil or not), and what it says for slices of integers; a slice cut to its beginning; no statement is proved here; at most 1048576 elements on each side.
-/
import Derived.Test.YtdcjhfmkkcakhaaIn
import Derived.Deep.AppendLies
namespace Go.Proofs.Ytdcjhfmkkcakhaa
open Go.ChangeShapes Go.WideShapes Go.ChangeAt Go.RowKit Go.Deep
set_option linter.unusedVariables false

theorem Calls.bel_w {P : Program} {f : FuncId} {args : Array Value} {w : World} {g : BelowOf w} {v : Value}
    (h : ∀ W, Below w.heap.size w W → Calls P f args W fun e w' => e = .returned v ∧ Below W.heap.size W w') : Calls P f args g.at_ fun e w'' => e = .returned v ∧ ∃ g' : BelowOf w, w'' = g'.at_ := Calls.bel_of (h _ g.bel)
theorem Blk.grow {w w' : World} {g k : Nat} {E : TypeId} {xs : List Value} (h : Blk w g E xs) (hg : w.grownBy w' (some k)) (hne : g ≠ k) : Blk w' g E xs := (hg.block g h.lt (by simpa using hne)).trans h
theorem enters_ {P : Program} {f : FuncId} {fn : Func} {c : Code} (hf : P.funcs[f]? = some fn) (hname : (fn.name == "runtime.NumGoroutine") = false) (hb : fn.body = some c) : ∀ (args : Array Value) (w : World), (callFunc f args).run P w = .ok (.enter f args) w := by
  intro args w
  have h1 : fn.name ≠ "runtime.NumGoroutine" := by simpa using hname
  simp [callFunc, hf, h1, hb, mark]
theorem run_append_none {P : Program} {w : World} (base : Nat) (t ty e : TypeId) (i : TypeInfo) (size : Nat) (ht : P.underlying t = some (.slice e)) (hi : P.info? e = some i)
    (v : Value) (n : Nat) (xs : List Value) (hown : w.ownsRow base e size v n xs) (c : Nat) : (Builtin.append_ #[t, t] ty #[v, .slice none 0 c]).run P w = .ok v w := by
  rcases hown.2 with ⟨rfl, rfl⟩ | ⟨g, cap, cur, rfl, _, _, hnc, _⟩
  · simp [Builtin.append_, run_underlying ht, sizeOf, typeInfo, hi, Builtin.lenOf, Builtin.firstCells]
  · simp [Builtin.append_, run_underlying ht, sizeOf, typeInfo, hi, Builtin.lenOf, Builtin.firstCells, hnc, storeCells]
theorem run_append_src {P : Program} {w : World} (base : Nat) (t ty e : TypeId) (z : Value) (sz bytes : Nat) (ht : P.underlying t = some (.slice e)) (hinfo : (P.info? e).map (fun i => (i.zero, i.size, i.bytes)) = some (some z, sz, bytes)) (hzs : z.cells.size = sz) (hsz : 0 < sz) (hby : bytes ≤ 100)
    (v : Value) (n : Nat) (xs : List Value) (hown : w.ownsRow base e sz v n xs) (A : Option Addr) (m c : Nat) (news : List Value) (hr : Rd w sz A m news) (h1 : ∀ u ∈ news, u.oneCell' = true) (hn : n ≤ 1048576) (hm : m ≤ 1048576) (hbase : base ≤ w.heap.size) :
    ∃ v' w', (Builtin.append_ #[t, t] ty #[v, .slice A m c]).run P w = .ok v' w' ∧ w'.ownsRow base e sz v' (n + m) (xs ++ news) ∧ w.grownBy w' v.ownBlock ∧ (v'.ownBlock = v.ownBlock ∨ v'.ownBlock = some w.heap.size) := by
  obtain ⟨i, hi, hzz⟩ := Option.map_eq_some_iff.1 hinfo
  simp only [Prod.mk.injEq] at hzz
  obtain ⟨hz, hs', hb⟩ := hzz
  rcases A with _ | ad
  · have hm0 : m = 0 := by
      rcases Nat.eq_zero_or_pos m with h0 | h0
      · exact h0
      · obtain ⟨b, off, h, _⟩ := hr.2 h0
        cases h
    subst hm0
    have hn0 : news = [] := List.eq_nil_of_length_eq_zero (by simpa using hr.1)
    subst hn0
    exact ⟨v, w, run_append_none base t ty e i sz ht hi v n xs hown c, by simpa using hown, World.grownBy.refl w _, .inl rfl⟩
  · have hcells : ∀ j u, news[j]? = some u → w.cell? (ad.add j) = some u := by
      intro j u hu
      rcases Nat.eq_zero_or_pos m with h0 | h0
      · subst h0
        have hn0 : news = [] := List.eq_nil_of_length_eq_zero (by simpa using hr.1)
        subst hn0
        simp at hu
      · obtain ⟨b, off, h, _, hc⟩ := hr.2 h0
        injection h with h
        subst h
        rw [Addr.add_lit]
        exact hc j u hu
    obtain ⟨v', w', hrun, h2, h3, _, h5⟩ := run_append_own_at (P := P) w base t ty e i z sz bytes ht hi hz hs' hb hzs hsz v n xs hown ad m c news hr.1 hcells h1 (by simp only [maxLen]; omega) (by have := Nat.mul_le_mul (show n + m ≤ 2097152 by omega) hby; omega) hbase
    exact ⟨v', w', hrun, h2, h3, h5⟩
theorem wp_append_src {P : Program} {w : World} {o : Oper} {a : Act} {K : Act → World → Prop} {Q : Exit → Act → World → Prop} (s x : Operand) (t : TypeId)
    (ho : o.op = .call { callee := .builtin .append, args := #[s, x], argTypes := #[t, t] })
    (base : Nat) (e : TypeId) (z : Value) (sz bytes : Nat) (ht : P.underlying t = some (.slice e)) (hinfo : (P.info? e).map (fun i => (i.zero, i.size, i.bytes)) = some (some z, sz, bytes)) (hzs : z.cells.size = sz) (hsz : 0 < sz) (hby : bytes ≤ 100)
    (v : Value) (n : Nat) (xs : List Value) (hs : a.eval s = v) (hown : w.ownsRow base e sz v n xs) (A : Option Addr) (m c : Nat) (news : List Value) (hx : a.eval x = .slice A m c) (hr : Rd w sz A m news) (h1 : ∀ u ∈ news, u.oneCell' = true) (hn : n ≤ 1048576) (hm : m ≤ 1048576) (hbase : base ≤ w.heap.size)
    (h : ∀ v' w', w'.ownsRow base e sz v' (n + m) (xs ++ news) → w.grownBy w' v.ownBlock → (v'.ownBlock = v.ownBlock ∨ v'.ownBlock = some w.heap.size) → K (a.put o.dst v') w') : o.wp P a w K Q := by
  obtain ⟨v', w', hrun, h2, h3, h4⟩ := run_append_src (P := P) (w := w) base t o.type e z sz bytes ht hinfo hzs hsz hby v n xs hown A m c news hr h1 hn hm hbase
  unfold Oper.wp execOp
  simp only [ho, resolve, invoke, builtin, Sem.run_bind, Sem.run_pure, Result.andThen_ok, List.map_toArray, List.map_cons, List.map_nil, hs, hx, hrun]
  exact h v' w' h2 h3 h4
theorem wpList_append_src {P : Program} {w : World} {ops : Array Oper} {rest : List Oper} {o : Oper} {a : Act} {Q : Exit → Act → World → Prop} (hgd : o.guard = none) (s x : Operand) (t : TypeId)
    (ho : o.op = .call { callee := .builtin .append, args := #[s, x], argTypes := #[t, t] })
    (base : Nat) (e : TypeId) (z : Value) (sz bytes : Nat) (ht : P.underlying t = some (.slice e)) (hinfo : (P.info? e).map (fun i => (i.zero, i.size, i.bytes)) = some (some z, sz, bytes)) (hzs : z.cells.size = sz) (hsz : 0 < sz) (hby : bytes ≤ 100)
    (v : Value) (n : Nat) (xs : List Value) (hs : a.eval s = v) (hown : w.ownsRow base e sz v n xs) (A : Option Addr) (m c : Nat) (news : List Value) (hx : a.eval x = .slice A m c) (hr : Rd w sz A m news) (h1 : ∀ u ∈ news, u.oneCell' = true) (hn : n ≤ 1048576) (hm : m ≤ 1048576) (hbase : base ≤ w.heap.size)
    (h : ∀ v' w', w'.ownsRow base e sz v' (n + m) (xs ++ news) → w.grownBy w' v.ownBlock → (v'.ownBlock = v.ownBlock ∨ v'.ownBlock = some w.heap.size) → wpList P ops Q rest (a.put o.dst v') w') : wpList P ops Q (o :: rest) a w :=
  wpList_plain hgd fun _ hK => wp_append_src s x t ho base e z sz bytes ht hinfo hzs hsz hby v n xs hs hown A m c news hx hr h1 hn hm hbase fun v' w' h2 h3 h4 => hK _ _ (h v' w' h2 h3 h4)
theorem wpList_apsI {w : World} {ops : Array Oper} {rest : List Oper} {o : Oper} {a : Act} {Q : Exit → Act → World → Prop} (hgd : o.guard = none) (s x : Operand) (ho : o.op = .call { callee := .builtin .append, args := #[s, x], argTypes := #[24, 24] })
    (B : Nat) (v : Value) (l m : List Int) (A : Option Addr) (c : Nat) (hs : a.eval s = v) (n : Nat) (hx : a.eval x = .slice A n c) (hown : OwI B w v l) (hr : RdI w A m) (hnm : n = m.length) (hB : B ≤ w.heap.size) (hn : l.length ≤ 1048576) (hm : m.length ≤ 1048576)
    (h : ∀ A' L c' w1, Hid (L = (l ++ m).length) → OwI B w1 (.slice A' L c') (l ++ m) → (∀ w0, Below B w0 w → Below B w0 w1) → w.grownBy w1 v.ownBlock → wpList Try.prog ops Q rest (a.put o.dst (.slice A' L c')) w1) :
    wpList Try.prog ops Q (o :: rest) a w := by
  subst hnm
  obtain ⟨_, o1, o2⟩ := hown
  refine wpList_append_src (P := Try.prog) hgd s x 24 ho B 3 (.int .i64 0) 1 8 Try.underlying24 (by kernel_rfl) rfl (by decide) (by decide) v l.length (l.map cI) hs o1 A m.length c (m.map cI) hx hr.1 (by intro u hu; obtain ⟨x, _, rfl⟩ := List.mem_map.1 hu; rfl) hn hm hB (fun v' w1 g1 g2 g3 => ?_)
  obtain ⟨A', c', rfl⟩ := own_form g1
  rw [← List.length_append] at g1 ⊢
  exact h A' _ c' w1 (Lib.hid rfl) ⟨⟨_, _, rfl⟩, by simpa using g1, fun y hy => (List.mem_append.1 hy).elim (o2 y) (hr.2 y)⟩ (fun w0 hb => hb.grown g2 hB (fun k hk => (o1.lt k hk).1)) g2
theorem wpList_as1I {wr : World} {ops : Array Oper} {rest : List Oper} {o : Oper} {a : Act} {Q : Exit → Act → World → Prop} (hgd : o.guard = none) (s x : Operand) (ho : o.op = .call { callee := .builtin .append, args := #[s, x], argTypes := #[24, 24] })
    (B : Nat) (v : Value) (l : List Int) (c : Int) (hs : a.eval s = v) (hx : a.eval x = .slice (some ⟨wr.heap.size, 0, none⟩) 1 1) (hown : OwI B wr v l) (hB : B ≤ wr.heap.size) (hn : l.length ≤ 1048576) (hc : I64 c)
    (h : ∀ A' L c' w1, Hid (L = (l ++ [c]).length) → OwI B w1 (.slice A' L c') (l ++ [c]) → (∀ w, Below B w wr → Below B w w1) → wr.grownBy w1 v.ownBlock → wr.heap.size + 1 ≤ w1.heap.size → wpList Try.prog ops Q rest (a.put o.dst (.slice A' L c')) w1) :
    wpList Try.prog ops Q (o :: rest) a (wr.alloc (.cells #[.int .i64 c] 3)) :=
  wpList_atI hgd s x ho B v l c hs hx hown hB hn hc (fun v' w1 h1 h2 h3 _ h5 => by obtain ⟨⟨A', c', rfl⟩, _⟩ := id h1; exact h A' _ c' w1 (Lib.hid rfl) h1 h2 h3 h5)
theorem wpList_as1H {wr : World} {ops : Array Oper} {rest : List Oper} {o : Oper} {a : Act} {Q : Exit → Act → World → Prop} (hgd : o.guard = none) (s x : Operand) (ho : o.op = .call { callee := .builtin .append, args := #[s, x], argTypes := #[24, 24] })
    (H : Nat) (hH : wr.heap.size = H) (B : Nat) (v : Value) (l : List Int) (c : Int) (hs : a.eval s = v) (hx : a.eval x = .slice (some ⟨H, 0, none⟩) 1 1) (hown : OwI B wr v l) (hB : B ≤ wr.heap.size) (hn : l.length ≤ 1048576) (hc : I64 c)
    (h : ∀ A' L c' w1, Hid (L = (l ++ [c]).length) → OwI B w1 (.slice A' L c') (l ++ [c]) → (∀ w, Below B w wr → Below B w w1) → wr.grownBy w1 v.ownBlock → wr.heap.size + 1 ≤ w1.heap.size → wpList Try.prog ops Q rest (a.put o.dst (.slice A' L c')) w1) :
    wpList Try.prog ops Q (o :: rest) a (wr.alloc (.cells #[.int .i64 c] 3)) := by
  subst hH
  exact wpList_as1I hgd s x ho B v l c hs hx hown hB hn hc h
theorem step_as1I {wr : World} {ops : Array Oper} {o : Oper} {a : Act} {K : Act → World → Prop} {Q : Exit → Act → World → Prop} {E : Prop} (hgd : o.guard = none) (s x : Operand) (ho : o.op = .call { callee := .builtin .append, args := #[s, x], argTypes := #[24, 24] })
    (B : Nat) (v : Value) (l : List Int) (c : Int) (hs : a.eval s = v) (hx : a.eval x = .slice (some ⟨wr.heap.size, 0, none⟩) 1 1) (hown : OwI B wr v l) (hB : B ≤ wr.heap.size) (hn : l.length ≤ 1048576) (hc : I64 c)
    (h : ∀ A' L c' w1, Hid (L = (l ++ [c]).length) → OwI B w1 (.slice A' L c') (l ++ [c]) → (∀ w, Below B w wr → Below B w w1) → wr.grownBy w1 v.ownBlock → wr.heap.size + 1 ≤ w1.heap.size → K (a.put o.dst (.slice A' L c')) w1) :
    if Region.wanted o (yielded ops a.tmps) = true then Oper.wp Try.prog o a (wr.alloc (.cells #[.int .i64 c] 3)) K Q else E := by
  have hw : Region.wanted o (yielded ops a.tmps) = true := by simp [Region.wanted, hgd]
  rw [if_pos hw]
  obtain ⟨_, o1, o2⟩ := hown
  have hal : Below wr.heap.size wr (wr.alloc (.cells #[.int .i64 c] 3)) := Below.alloc (Below.refl _ _) (Nat.le_refl _) _
  refine wp_append_src (P := Try.prog) s x 24 ho B 3 (.int .i64 0) 1 8 Try.underlying24 (by kernel_rfl) rfl (by decide) (by decide) v l.length (l.map cI) hs (o1.alloc _) (some ⟨wr.heap.size, 0, none⟩) 1 1 [.int .i64 c] hx ((Blk.new wr 3 [.int .i64 c]).rd rfl) (by simp [Value.oneCell']) hn (by omega) (by simp; omega) (fun v' w1 g1 g2 g3 => ?_)
  obtain ⟨A', c', rfl⟩ := own_form g1
  have hl : l.length + 1 = (l ++ [c]).length := by simp
  rw [hl] at g1 ⊢
  refine h A' _ c' w1 (Lib.hid rfl) ⟨⟨_, _, rfl⟩, by simpa [cI] using g1, ?_⟩ (fun w hb => below_grown o1 hB hb g2) (grown_bel hal g2) (by have := g2.size; simpa using this)
  intro y hy
  rcases List.mem_append.1 hy with hy | hy
  · exact o2 y hy
  · simp at hy; subst hy; exact hc
theorem bl_d {B : Nat} {w wr : World} (hb : Below B w wr) (hB : B ≤ wr.heap.size) (o : Obj) : Below B w (wr.alloc o).drew := (hb.alloc hB o).drew
theorem step_as1Id {wr : World} {ops : Array Oper} {o : Oper} {a : Act} {K : Act → World → Prop} {Q : Exit → Act → World → Prop} {E : Prop} (hgd : o.guard = none) (s x : Operand) (ho : o.op = .call { callee := .builtin .append, args := #[s, x], argTypes := #[24, 24] })
    (B : Nat) (v : Value) (l : List Int) (c : Int) (hs : a.eval s = v) (hx : a.eval x = .slice (some ⟨wr.heap.size, 0, none⟩) 1 1) (hown : OwI B wr v l) (hB : B ≤ wr.heap.size) (hn : l.length ≤ 1048576) (hc : I64 c)
    (h : ∀ A' L c' w1, Hid (L = (l ++ [c]).length) → OwI B w1 (.slice A' L c') (l ++ [c]) → (∀ w, Below B w wr → Below B w w1) → wr.grownBy w1 v.ownBlock → wr.heap.size + 1 ≤ w1.heap.size → K (a.put o.dst (.slice A' L c')) w1) :
    if Region.wanted o (yielded ops a.tmps) = true then Oper.wp Try.prog o a (wr.alloc (.cells #[.int .i64 c] 3)).drew K Q else E := by
  have hw : Region.wanted o (yielded ops a.tmps) = true := by simp [Region.wanted, hgd]
  rw [if_pos hw]
  obtain ⟨_, o1, o2⟩ := hown
  have hal : Below wr.heap.size wr (wr.alloc (.cells #[.int .i64 c] 3)).drew := bl_drew (Below.alloc (Below.refl _ _) (Nat.le_refl _) _)
  refine wp_append_src (P := Try.prog) (w := (wr.alloc (.cells #[.int .i64 c] 3)).drew) s x 24 ho B 3 (.int .i64 0) 1 8 Try.underlying24 (by kernel_rfl) rfl (by decide) (by decide) v l.length (l.map cI) hs (o1.alloc _) (some ⟨wr.heap.size, 0, none⟩) 1 1 [.int .i64 c] hx ((Blk.new wr 3 [.int .i64 c]).rd rfl) (by simp [Value.oneCell']) hn (by omega) (by simp; omega) (fun v' w1 g1 g2 g3 => ?_)
  obtain ⟨A', c', rfl⟩ := own_form g1
  have hl : l.length + 1 = (l ++ [c]).length := by simp
  rw [hl] at g1 ⊢
  refine h A' _ c' w1 (Lib.hid rfl) ⟨⟨_, _, rfl⟩, by simpa [cI] using g1, ?_⟩ (fun w hb => (bl_d hb hB _).grown g2 (by simp; omega) (fun k hk => (o1.lt k hk).1)) (grown_bel hal g2) (by have := g2.size; simpa using this)
  intro y hy
  rcases List.mem_append.1 hy with hy | hy
  · exact o2 y hy
  · simp at hy; subst hy; exact hc
/-- a block of integers that is known whole, as a slice of the call's own -/
theorem Blk.inI {w : World} {g N : Nat} {l : List Int} (h : Blk w g 3 (l.map cI)) (hN : N = l.length) (hl : N ≤ 1048576) (hg : ∀ x ∈ l, I64 x) : InI g (g + 1) w (.slice (some ⟨g, 0, none⟩) N N) l := by
  subst hN
  refine ⟨⟨⟨_, _, rfl⟩, h.own (Nat.le_refl _) (by simp) (by simp only [maxLen]; omega), hg⟩, fun q hq => ?_⟩
  have : g = q := by simpa [Value.ownBlock] using hq
  omega
theorem OwI.len {B : Nat} {w : World} {A : Option Addr} {n c : Nat} {l : List Int} (h : OwI B w (.slice A n c) l) : n = l.length := by obtain ⟨⟨A', c', e⟩, _⟩ := h; injection e
theorem OwI.cap {B : Nat} {w : World} {A : Option Addr} {n c : Nat} {l : List Int} (h : OwI B w (.slice A n c) l) : n ≤ c := by
  rcases h.2.1.2 with ⟨e, h0⟩ | ⟨g, cap, cur, hv, _, _, hn, _⟩
  · injection e with e1 e2 e3; omega
  · obtain ⟨⟨A', c', e⟩, _⟩ := h
    injection e with e1 e2 e3
    injection hv with f1 f2 f3
    omega
theorem OwI.setFar {B : Nat} {w : World} {v : Value} {l : List Int} (h : OwI B w v l) {p : Addr} (hp : v.ownBlock = none ∨ v.ownBlock ≠ some p.block) (u : Value) : OwI B (w.setCell p u) v l :=
  ⟨h.1, h.2.1.kept (w' := w.setCell p u) (row := some p.block) ⟨rfl, rfl, rfl, by simp, fun k hk hne => Below.heap_setCell w p u k (by intro e; exact hne (by rw [e]))⟩ (by simpa using hp), h.2.2⟩
theorem OwI.typ {B : Nat} {w : World} {v : Value} {l : List Int} (h : OwI B w v l) {g : Nat} {E : TypeId} {xs : List Value} (b : Blk w g E xs) (hne : E ≠ 3) : ∀ k, v.ownBlock = some k → g ≠ k := by
  rintro k hk rfl
  rcases h.2.1.2 with ⟨rfl, _⟩ | ⟨g', cap, cur, rfl, _, hg, _⟩
  · simp [Value.ownBlock] at hk
  · have : g' = g := by simpa [Value.ownBlock] using hk
    subst this
    unfold Blk at b
    rw [hg] at b
    injection b with b
    injection b with _ b
    exact hne b.symm
theorem ownsRow_take {w : World} {B : Nat} {E : TypeId} {sz : Nat} {A : Option Addr} {n c : Nat} {xs : List Value} (h : w.ownsRow B E sz (.slice A n c) n xs) {k : Nat} (hk : k ≤ n) : w.ownsRow B E sz (.slice A k c) k (xs.take (k * sz)) := by
  refine ⟨by rw [List.length_take, h.1]; exact Nat.min_eq_left (Nat.mul_le_mul_right _ hk), ?_⟩
  rcases h.2 with ⟨e, h0⟩ | ⟨g, cap, cur, hv, hb, hg, hn, hm, hs, ht⟩
  · injection e with e1 e2 e3
    subst e1; subst e2; subst e3
    have : k = 0 := by omega
    subst this
    exact .inl ⟨rfl, rfl⟩
  · injection hv with e1 e2 e3
    subst e1; subst e3
    refine .inr ⟨g, c, cur, rfl, hb, hg, by omega, hm, hs, ?_⟩
    rw [← ht, List.take_take, Nat.min_eq_left (Nat.mul_le_mul_right _ hk)]
theorem OwI.take {B : Nat} {w : World} {A : Option Addr} {n c : Nat} {l : List Int} (h : OwI B w (.slice A n c) l) {k : Nat} (hk : k ≤ l.length) : OwI B w (.slice A k c) (l.take k) := by
  obtain ⟨⟨A', c', e⟩, h1, h2⟩ := h
  injection e with e1 e2 e3
  subst e1; subst e2; subst e3
  have hl : (l.take k).length = k := by rw [List.length_take]; omega
  refine ⟨⟨A, c, by rw [hl]⟩, ?_, fun x hx => h2 x (List.mem_of_mem_take hx)⟩
  have := ownsRow_take h1 hk
  rw [hl]
  rwa [Nat.mul_one, ← List.map_take] at this
end Go.Proofs.Ytdcjhfmkkcakhaa

/-
  Search by breadth over cells: the list that it makes (a plain model), and the contract of the function that finds the cells within reach; no statement is proved here; no condition.
-/
import Derived.Test.YtdcjhfmkkcakhaaNeigh
import Derived.Test.YtdcjhfmkkcakhaaCells
import Derived.Deep.LoopGhost
import Derived.Deep.CutRange
namespace Go.Proofs.Ytdcjhfmkkcakhaa
open Go.ChangeShapes Go.WideShapes Go.ChangeAt Go.RowKit Go.Deep
set_option linter.unusedVariables false

abbrev Cl := Int × Int
def idxN (c : Cl) : Nat := (c.2 * 8 + c.1).toNat
def addC (L : List Cl) (d : Cl) : List Cl := if d ∈ L then L else L ++ [d]
def addS (s : Nat) (L : List Cl) (d : Cl) : List Cl := if s.testBit (idxN d) then addC L d else L
def grow (s : Nat) (L : List Cl) (c : Cl) : List Cl := (cellsBy (fun k => s.testBit k && nbr c.1 c.2 (cellOf k).1 (cellOf k).2) 64).foldl addC L
def bfs (s : Nat) : Nat → Nat → List Cl → List Cl
  | 0, _, L => L
  | f + 1, k, L => match L[k]? with
    | none => L
    | some c => bfs s f (k + 1) (grow s L c)
def reachL (s : Nat) (c : Cl) : List Cl := bfs s 65 0 [c]

theorem idxN_of (k : Nat) : idxN (cellOf k) = k := by unfold idxN cellOf; dsimp only; omega
theorem of_idxN {c : Cl} (h : cellOk c.1 c.2 = true) : cellOf (idxN c) = c := by
  have := cellOk_iff.1 h
  obtain ⟨x, y⟩ := c
  dsimp only at this
  unfold cellOf idxN
  rw [Prod.mk.injEq]
  dsimp only
  constructor
  · omega
  · omega
theorem idxN_lt {c : Cl} (h : cellOk c.1 c.2 = true) : idxN c < 64 := by
  have := cellOk_iff.1 h
  unfold idxN; omega
theorem idxN_inj {c d : Cl} (hc : cellOk c.1 c.2 = true) (hd : cellOk d.1 d.2 = true) (h : idxN c = idxN d) : c = d := by rw [← of_idxN hc, ← of_idxN hd, h]
theorem mem_cellsBy {p : Nat → Bool} {c : Cl} : c ∈ cellsBy p 64 ↔ cellOk c.1 c.2 = true ∧ p (idxN c) = true := by
  unfold cellsBy
  simp only [List.mem_map, List.mem_filter, List.mem_range]
  constructor
  · rintro ⟨k, ⟨hk, hp⟩, rfl⟩
    exact ⟨cellOf_ok k hk, by rw [idxN_of]; exact hp⟩
  · rintro ⟨h, hp⟩
    exact ⟨idxN c, ⟨idxN_lt h, hp⟩, of_idxN h⟩
theorem cellsBy_filter (p q : Nat → Bool) : (cellsBy p 64).filter (fun c => q (idxN c)) = cellsBy (fun k => p k && q k) 64 := by
  unfold cellsBy
  rw [List.filter_map, List.filter_filter]
  congr 1
  apply List.filter_congr
  intro k hk
  simp only [Function.comp, idxN_of]
  rw [Bool.and_comm]
theorem cellsBy_congr {p q : Nat → Bool} (h : ∀ k < 64, p k = q k) : cellsBy p 64 = cellsBy q 64 := by
  unfold cellsBy
  congr 1
  exact List.filter_congr fun k hk => h k (List.mem_range.1 hk)
theorem foldl_if {α β : Type} (f : α → β → α) (p : β → Bool) (l : List β) : ∀ a, l.foldl (fun a b => if p b then f a b else a) a = (l.filter p).foldl f a := by
  induction l with
  | nil => intro a; rfl
  | cons b l ih =>
    intro a
    rw [List.foldl_cons, ih, List.filter_cons]
    cases p b <;> simp
theorem grow_nbrs (s : Nat) (L : List Cl) (c : Cl) : grow s L c = (nbrs c.1 c.2).foldl (addS s) L := by
  have : addS s = fun (L : List Cl) (d : Cl) => if (fun d => s.testBit (idxN d)) d = true then addC L d else L := rfl
  rw [this, foldl_if, nbrs, cellsBy_filter]
  unfold grow
  congr 1
  exact cellsBy_congr fun k _ => Bool.and_comm _ _
theorem grow_filter (s : Nat) (L : List Cl) (c : Cl) : grow s L c = (cellsBy s.testBit 64).foldl (fun L d => if nbr c.1 c.2 d.1 d.2 then addC L d else L) L := by
  have e : (cellsBy s.testBit 64).filter (fun d => nbr c.1 c.2 d.1 d.2) = (cellsBy s.testBit 64).filter (fun d => (fun k => nbr c.1 c.2 (cellOf k).1 (cellOf k).2) (idxN d)) := by
    apply List.filter_congr
    intro d hd
    simp only [of_idxN (mem_cellsBy.1 hd).1]
  have e2 := cellsBy_filter s.testBit (fun k => nbr c.1 c.2 (cellOf k).1 (cellOf k).2)
  rw [foldl_if]
  unfold grow
  rw [← e2, ← e]

/-! ### what holds of the list all along -/
structure WfL (s : Nat) (L : List Cl) : Prop where
  ok : ∀ c ∈ L, cellOk c.1 c.2 = true
  nd : L.Nodup
theorem nodup_lt {n : Nat} : ∀ {l : List Nat}, l.Nodup → (∀ x ∈ l, x < n) → l.length ≤ n := by
  induction n with
  | zero => intro l _ h; cases l with
    | nil => simp
    | cons x l => exact absurd (h x (by simp)) (by omega)
  | succ n ih =>
    intro l hd h
    by_cases hn : n ∈ l
    · have := ih (hd.erase n) (fun x hx => by
        have h1 := (hd.mem_erase_iff).1 hx
        have h2 := h x h1.2
        have := h1.1
        omega)
      rw [List.length_erase_of_mem hn] at this
      omega
    · have := ih hd (fun x hx => by
        have h2 := h x hx
        have : x ≠ n := fun e => hn (e ▸ hx)
        omega)
      omega
theorem map_nodup {α β : Type} {f : α → β} : ∀ {l : List α}, (∀ a ∈ l, ∀ b ∈ l, f a = f b → a = b) → l.Nodup → (l.map f).Nodup := by
  intro l
  induction l with
  | nil => intro _ _; simp
  | cons a l ih =>
    intro hi hd
    rw [List.nodup_cons] at hd
    rw [List.map_cons, List.nodup_cons]
    refine ⟨fun hm => ?_, ih (fun x hx y hy => hi x (by simp [hx]) y (by simp [hy])) hd.2⟩
    obtain ⟨b, hb, e⟩ := List.mem_map.1 hm
    have := hi b (by simp [hb]) a (by simp) e
    exact hd.1 (this ▸ hb)
theorem WfL.len {s : Nat} {L : List Cl} (h : WfL s L) : L.length ≤ 64 := by
  have := nodup_lt (n := 64) (l := L.map idxN) (map_nodup (fun a ha b hb e => idxN_inj (h.ok a ha) (h.ok b hb) e) h.nd) (fun x hx => by
    obtain ⟨c, hc, rfl⟩ := List.mem_map.1 hx
    exact idxN_lt (h.ok c hc))
  rwa [List.length_map] at this
theorem WfL.add {s : Nat} {L : List Cl} (h : WfL s L) {d : Cl} (hd : cellOk d.1 d.2 = true) : WfL s (addC L d) := by
  unfold addC
  split
  · exact h
  · rename_i hn
    refine ⟨fun c hc => ?_, ?_⟩
    · rcases List.mem_append.1 hc with hc | hc
      · exact h.ok c hc
      · simp at hc; subst hc; exact hd
    · rw [List.nodup_append]
      refine ⟨h.nd, by simp, fun a ha b hb => ?_⟩
      simp at hb; subst hb
      intro e; exact hn (e ▸ ha)
theorem WfL.addS {s : Nat} {L : List Cl} (h : WfL s L) {d : Cl} (hd : cellOk d.1 d.2 = true) : WfL s (addS s L d) := by
  unfold Go.Proofs.Ytdcjhfmkkcakhaa.addS
  split
  · exact h.add hd
  · exact h
theorem WfL.fold {s : Nat} {l : List Cl} : ∀ {L : List Cl}, WfL s L → (∀ d ∈ l, cellOk d.1 d.2 = true) → WfL s (l.foldl addC L) := by
  induction l with
  | nil => intro L h _; exact h
  | cons d l ih => intro L h hd; exact ih (h.add (hd d (by simp))) (fun e he => hd e (by simp [he]))
theorem WfL.foldS {s : Nat} {l : List Cl} : ∀ {L : List Cl}, WfL s L → (∀ d ∈ l, cellOk d.1 d.2 = true) → WfL s (l.foldl (Go.Proofs.Ytdcjhfmkkcakhaa.addS s) L) := by
  induction l with
  | nil => intro L h _; exact h
  | cons d l ih => intro L h hd; exact ih (h.addS (hd d (by simp))) (fun e he => hd e (by simp [he]))
theorem WfL.grow {s : Nat} {L : List Cl} (h : WfL s L) (c : Cl) : WfL s (grow s L c) := h.fold fun _ hd => (mem_cellsBy.1 hd).1
theorem WfL.bfs {s : Nat} (f : Nat) : ∀ {k : Nat} {L : List Cl}, WfL s L → WfL s (bfs s f k L) := by
  induction f with
  | zero => intro k L h; exact h
  | succ f ih =>
    intro k L h
    rw [Go.Proofs.Ytdcjhfmkkcakhaa.bfs]
    split
    · exact h
    · exact ih (h.grow _)
theorem WfL.one {s : Nat} {c : Cl} (h : cellOk c.1 c.2 = true) : WfL s [c] := ⟨by simpa using h, by simp⟩
theorem reachL_wf (s : Nat) {c : Cl} (h : cellOk c.1 c.2 = true) : WfL s (reachL s c) := (WfL.one h).bfs 65
theorem bfs_step {s f k : Nat} {L : List Cl} {c : Cl} (h : L[k]? = some c) : bfs s (f + 1) k L = bfs s f (k + 1) (grow s L c) := by rw [bfs, h]
theorem bfs_end {s f k : Nat} {L : List Cl} (h : L.length ≤ k) : bfs s f k L = L := by
  cases f with
  | zero => rfl
  | succ f => rw [bfs, List.getElem?_eq_none h]
theorem addC_pre (L : List Cl) (d : Cl) : ∃ t, addC L d = L ++ t := by
  unfold addC; split
  · exact ⟨[], by simp⟩
  · exact ⟨[d], rfl⟩
theorem fold_pre (l : List Cl) : ∀ L : List Cl, ∃ t, l.foldl addC L = L ++ t := by
  induction l with
  | nil => intro L; exact ⟨[], by simp⟩
  | cons d l ih =>
    intro L
    obtain ⟨t, ht⟩ := addC_pre L d
    obtain ⟨u, hu⟩ := ih (addC L d)
    exact ⟨t ++ u, by rw [List.foldl_cons, hu, ht, List.append_assoc]⟩
theorem setFold_bit (i : Nat) : ∀ (l : List Cl) (s : Nat), (l.foldl (fun s c => s ||| nthBit c.1 c.2) s).testBit i = (s.testBit i || decide (∃ c ∈ l, idxN c = i)) := by
  intro l
  induction l with
  | nil => intro s; simp
  | cons c l ih =>
    intro s
    rw [List.foldl_cons, ih, Nat.testBit_or, nthBit_test, Bool.or_assoc]
    congr 1
    rw [← Bool.decide_or]
    apply decide_eq_decide.2
    simp [idxN]
theorem setL_bit (l : List Cl) (i : Nat) : (setL l).testBit i = decide (∃ c ∈ l, idxN c = i) := by
  unfold setL
  rw [setFold_bit]; simp
theorem setL_has {l : List Cl} (h : ∀ c ∈ l, cellOk c.1 c.2 = true) {d : Cl} (hd : cellOk d.1 d.2 = true) : hasBit (setL l) d.1 d.2 = decide (d ∈ l) := by
  unfold hasBit
  rw [hd, Bool.true_and]
  show (setL l).testBit (idxN d) = _
  rw [setL_bit]
  apply decide_eq_decide.2
  constructor
  · rintro ⟨c, hc, e⟩
    exact idxN_inj (h c hc) hd e ▸ hc
  · exact fun hd => ⟨d, hd, rfl⟩

theorem addS_len (s : Nat) (L : List Cl) (d : Cl) : L.length ≤ (addS s L d).length := by
  unfold addS addC
  split
  · split <;> simp
  · exact Nat.le_refl _
theorem foldS_len (s : Nat) (l : List Cl) : ∀ L : List Cl, L.length ≤ (l.foldl (addS s) L).length := by
  induction l with
  | nil => intro L; exact Nat.le_refl _
  | cons d l ih => intro L; exact Nat.le_trans (addS_len s L d) (ih _)
/-! ### a slice of cells of the call's own, whose beginning may have been cut off -/
def TlC (B : Nat) (w : World) (v : Value) (l : List Cl) : Prop :=
  ∃ b off cap xs, v = .slice (some ⟨b, off, none⟩) l.length cap ∧ B ≤ b ∧ Blk w b 35 xs ∧ l.length ≤ cap ∧ cap ≤ maxLen ∧ off + cap * 2 ≤ xs.length ∧ (∀ j u, (l.flatMap cC)[j]? = some u → xs[off + j]? = some u) ∧ ∀ x ∈ l, I64 x.1 ∧ I64 x.2
theorem TlC.of_own {B : Nat} {w : World} {v : Value} {l : List Cl} (h : OwC B w v l) (hl : l ≠ []) : TlC B w v l := by
  obtain ⟨⟨A, c, e⟩, ⟨hn, ho⟩, hg⟩ := h
  rcases ho with ⟨_, h0⟩ | ⟨g, cap, cur, hv, hb, hh, hnc, hm, hs, ht⟩
  · exact absurd (List.eq_nil_of_length_eq_zero h0) hl
  · refine ⟨g, 0, cap, cur.toList, hv, hb, by simpa [Blk] using hh, hnc, hm, by simp [hs], fun j u hu => ?_, hg⟩
    rw [← ht, List.getElem?_take] at hu
    rw [Nat.zero_add]
    split at hu
    · exact hu
    · cases hu
theorem TlC.rd {B : Nat} {w : World} {A : Option Addr} {n c : Nat} {l : List Cl} (h : TlC B w (.slice A n c) l) : RdC w A l := by
  obtain ⟨b, off, cap, xs, e, hb, hh, hle, hm, hsz, hc, hg⟩ := h
  injection e with e1 e2 e3
  subst e1
  refine ⟨⟨flatMap_len cC 2 (fun _ => rfl) l, fun _ => ⟨b, off, rfl, hh.lt, fun j u hu => ?_⟩⟩, hg⟩
  rw [hh.cell]; exact hc j u hu
theorem TlC.form {B : Nat} {w : World} {v : Value} {l : List Cl} (h : TlC B w v l) : ∃ b off cap, v = .slice (some ⟨b, off, none⟩) l.length cap ∧ l.length ≤ cap ∧ B ≤ b ∧ b < w.heap.size := by
  obtain ⟨b, off, cap, xs, e, hb, hh, hle, hm, hsz, hc, hg⟩ := h
  exact ⟨b, off, cap, e, hle, hb, hh.lt⟩
theorem TlC.bel {B : Nat} {w w' : World} {v : Value} {l : List Cl} (h : TlC B w v l) (hb : Below w.heap.size w w') : TlC B w' v l := by
  obtain ⟨b, off, cap, xs, e, hB, hh, r⟩ := h
  exact ⟨b, off, cap, xs, e, hB, hh.bel hb, r⟩
theorem TlC.cut {B : Nat} {w : World} {b off n cap : Nat} {x : Cl} {l : List Cl} (h : TlC B w (.slice (some ⟨b, off, none⟩) n cap) (x :: l)) :
    TlC B w (.slice (if cap = 1 then some ⟨b, off, none⟩ else some ⟨b, off + 2, none⟩) l.length (cap - 1)) l := by
  obtain ⟨b', off', cap', xs, e, hB, hh, hle, hm, hsz, hc, hg⟩ := h
  injection e with e1 e2 e3
  injection e1 with e1
  injection e1 with e1 e1'
  subst e1; subst e1'; subst e3
  rw [List.length_cons] at hle
  by_cases h1 : cap = 1
  · rw [if_pos h1]
    have h0 : l.length = 0 := by omega
    have hl : l = [] := List.eq_nil_of_length_eq_zero h0
    subst hl
    exact ⟨b, off, cap - 1, xs, rfl, hB, hh, by omega, by omega, by omega, fun j u hu => by simp at hu, fun x hx => by simp at hx⟩
  · rw [if_neg h1]
    refine ⟨b, off + 2, cap - 1, xs, rfl, hB, hh, by omega, by omega, by omega, fun j u hu => ?_, fun x hx => hg x (by simp [hx])⟩
    have := hc (j + 2) u (by rw [List.flatMap_cons]; simpa [cC] using hu)
    rwa [show off + 2 + j = off + (j + 2) by omega]
theorem TlC.one {B : Nat} {w : World} {b : Nat} {x y : Int} (hx : 0 ≤ x ∧ x ≤ 7) (hy : 0 ≤ y ∧ y ≤ 7) (hB : B ≤ b) (h : Blk w b 35 [.int .i64 x, .int .i64 y]) : TlC B w (.slice (some ⟨b, 0, none⟩) 1 1) [(x, y)] :=
  ⟨b, 0, 1, _, rfl, hB, h, Nat.le_refl _, by decide, by simp, fun j u hu => by rw [Nat.zero_add]; exact hu, fun c hc => by simp at hc; subst hc; unfold I64; dsimp only; omega⟩
theorem info_cl : (Try.prog.info? 35).map (fun i => (i.zero, i.size, i.bytes)) = some (some (.agg #[.int .i64 0, .int .i64 0]), 2, 16) := by kernel_rfl
theorem wpList_atTl {wr : World} {ops : Array Oper} {rest : List Oper} {o : Oper} {a : Act} {Q : Exit → Act → World → Prop} (hgd : o.guard = none) (s x : Operand) (ho : o.op = .call { callee := .builtin .append, args := #[s, x], argTypes := #[28, 28] })
    (B : Nat) (v : Value) (l : List Cl) (c d : Int) (hs : a.eval s = v) (hx : a.eval x = .slice (some ⟨wr.heap.size, 0, none⟩) 1 1) (hown : TlC B wr v l) (hB : B ≤ wr.heap.size) (hn : l.length ≤ 1048576) (hc : I64 c) (hd : I64 d)
    (h : ∀ v' w1, TlC B w1 v' (l ++ [(c, d)]) → (∀ w, Below B w wr → Below B w w1) → wr.grownBy w1 v.ownBlock → (∀ k, v'.ownBlock = some k → v.ownBlock = some k ∨ wr.heap.size + 1 ≤ k) → wr.heap.size + 1 ≤ w1.heap.size → wpList Try.prog ops Q rest (a.put o.dst v') w1) :
    wpList Try.prog ops Q (o :: rest) a (wr.alloc (.cells #[.int .i64 c, .int .i64 d] 35)) := by
  obtain ⟨b, off, cap, xs, rfl, hBb, hh, hle, hm, hsz, hcs, hg⟩ := hown
  obtain ⟨i, hi, hzz⟩ := Option.map_eq_some_iff.1 info_cl
  simp only [Prod.mk.injEq] at hzz
  obtain ⟨hz, hs', hb⟩ := hzz
  have hA := hh.alloc (.cells #[.int .i64 c, .int .i64 d] 35)
  have hN := Blk.new wr 35 [.int .i64 c, .int .i64 d]
  have hlen : (l.flatMap cC).length = l.length * 2 := flatMap_len cC 2 (fun _ => rfl) l
  have hcap : l.length + 1 ≤ cap → off + l.length * 2 + 2 ≤ xs.length := by omega
  have hlt := hh.lt
  refine wpList_append_arg _ hgd s x 28 ho 35 i _ 2 16 Try.underlying28 hi hz hs' hb rfl (by decide) b off l.length cap (l.flatMap cC) hs hlen (fun j u hu => by rw [hA.cell]; exact hcs j u hu)
    ⟨wr.heap.size, 0, none⟩ 1 1 [.int .i64 c, .int .i64 d] hx rfl (fun j u hu => by rw [Addr.add_lit, Nat.zero_add, hN.cell]; exact hu) (by simp [Value.oneCell']) (fun hr j hj => ⟨?_, hA.frozen _⟩) (by simp only [maxLen] at *; omega) (by omega) (fun hr => ?_) (fun hr v' w' ow hgr => ?_)
  · have := hcap hr
    simp only [List.length_cons, List.length_nil] at hj
    rw [hA.cell, List.getElem?_eq_getElem (by omega)]; rfl
  · have hcap' := hcap hr
    have hS := (hA.set_ (off + l.length * 2) (.int .i64 c)).set_ (off + l.length * 2 + 1) (.int .i64 d)
    refine h _ _ ⟨b, off, cap, _, by rw [List.length_append]; rfl, hBb, hS, by simpa using hr, hm, by simpa using hsz, fun j u hu => ?_, fun y hy => ?_⟩ (fun w hb => (((hb.alloc hB _).setCell (p := ⟨b, _, none⟩) hBb _).setCell (p := ⟨b, _, none⟩) hBb _)) ?_ (fun k hk => .inl hk) (by simp [World.setCells])
    · rw [List.flatMap_append, List.getElem?_append] at hu
      rw [List.getElem?_set, List.getElem?_set]
      split at hu
      · rename_i hj
        rw [hlen] at hj
        rw [if_neg (by omega), if_neg (by omega)]
        exact hcs j u hu
      · rename_i hj
        rw [hlen] at hj hu
        have h2 : j - l.length * 2 < 2 := by
          rcases Nat.lt_or_ge (j - l.length * 2) 2 with h2 | h2
          · exact h2
          · rw [List.getElem?_eq_none (by simpa [cC] using h2)] at hu; cases hu
        rcases (show j - l.length * 2 = 0 ∨ j - l.length * 2 = 1 by omega) with e | e
        · rw [e] at hu
          rw [if_neg (by omega), if_pos (by omega), if_pos (by omega)]
          simpa [cC] using hu
        · rw [e] at hu
          rw [if_pos (by omega), if_pos (by simp; omega)]
          simpa [cC] using hu
    · rcases List.mem_append.1 hy with hy | hy
      · exact hg y hy
      · simp at hy; subst hy; exact ⟨hc, hd⟩
    · refine ⟨rfl, rfl, rfl, by simp [World.setCells], fun k hk hne => ?_⟩
      have hne' : k ≠ b := fun e => hne (by rw [e]; rfl)
      exact ((Below.heap_setCell _ _ _ k hne').trans (Below.heap_setCell _ _ _ k hne')).trans (Below.heap_alloc wr _ k hk)
  · have hwr : (wr.alloc (.cells #[.int .i64 c, .int .i64 d] 35)).heap.size = wr.heap.size + 1 := World.size_alloc _ _
    have hBL : Below wr.heap.size wr w' := by
      refine ⟨hgr.os, hgr.tape, hgr.output, ?_, fun k hk => ?_⟩
      · have := hgr.size; omega
      · exact (hgr.block k (by omega) (by simp)).trans (Below.heap_alloc wr _ k hk)
    have hT : OwC (wr.heap.size + 1) w' v' (l ++ [(c, d)]) := by
      rw [hwr] at ow
      refine ⟨by simpa using own_form ow, by simpa [cC] using ow, fun y hy => ?_⟩
      rcases List.mem_append.1 hy with hy | hy
      · exact hg y hy
      · simp at hy; subst hy; exact ⟨hc, hd⟩
    have hT' := TlC.of_own hT (by simp)
    refine h v' w' ?_ (fun w hb => hb.trans (hBL.mono hB)) ⟨hgr.os, hgr.tape, hgr.output, hBL.size, fun k hk _ => hBL.block k hk⟩ (fun k hk => .inr ((hT.2.1.lt k hk).1)) (by have := hgr.size; omega)
    obtain ⟨b2, off2, cap2, xs2, e, hB2, r⟩ := hT'
    exact ⟨b2, off2, cap2, xs2, e, by omega, r⟩
theorem with_zero (x y : Int) (w : World) (h : cellOk x y = true) :
    Calls Try.prog 178 #[.int .u64 0, .agg #[.int .i64 x, .int .i64 y]] w fun e w' => e = .returned (.int .u64 ((setL [(x, y)] : Nat) : Int)) ∧ Below w.heap.size w w' := with_any 0 x y w (by decide) h
set_option maxRecDepth 100000 in
set_option maxHeartbeats 1000000 in
theorem reach_any (s : Nat) (x y : Int) (w : World) (hs : s < 18446744073709551616) (h : cellOk x y = true) :
    Calls Try.prog 158 #[.int .u64 s, .agg #[.int .i64 x, .int .i64 y]] w fun e w' => e = .returned (.int .u64 ((setL (reachL s (x, y)) : Nat) : Int)) ∧ Below w.heap.size w w' := by
  (have hB := Below.refl w.heap.size w; have P := Blk.new w 35 [.int .i64 x, .int .i64 y]; have Pc := P.c2)
  have hxy := cellOk_iff.1 h
  go_enter Try.func158, Try.ntmps158
  go_upto_region 1 with fail
  go_cut [5, 6] from 10 to 13 (fun o q wr => o = .int .u64 ((setL [(x, y)] : Nat) : Int) ∧ TlC w.heap.size wr q [(x, y)] ∧ Below w.heap.size w wr)
  case first =>
    go_region_held3 (fun w' => w'.cell? ⟨w.heap.size, 0, none⟩ = some (.int .i64 x) ∧ w'.cell? ⟨w.heap.size, 1, none⟩ = some (.int .i64 y)) (go_keep)
      (first | (go_at_call 178; refine (with_zero x y _ h).mono ?_; rintro e wn ⟨rfl, hbn⟩; have P3 := (P.bel (bl_trans (by go_grown) hbn)).c2; have hb4 := bl_trans (w := w) (by go_grown) hbn; have HK := fun (xs : List Value) (hh : Blk _ (w.heap.size + 1) 35 xs) => hh.bel hbn; clear hbn))
    · go_wp2_with fail
      go_meet
      exact ⟨rfl, TlC.one hxy.1 hxy.2 hb4.size (Blk.new wn _ _), hb4.alloc hb4.size _⟩
    · go_wp2_with fail
      go_meet
      exact ⟨rfl, TlC.one hxy.1 hxy.2 (Nat.le_succ _) (HK _ (Blk.new2 w _ _ _)), hb4⟩
  case rest =>
    obtain ⟨rfl, hT, hB1⟩ := hcut
    clear hB Pc
    go_wp2_with fail
    go_loopg [5, 6] 65 (fun f o q wr => ∃ L k, k + f = 65 ∧ k ≤ L.length ∧ o = .int .u64 ((setL L : Nat) : Int) ∧ TlC w.heap.size wr q (L.drop k) ∧ Hid (WfL s L) ∧ Hid (bfs s f k L = reachL s (x, y)) ∧ Below w.heap.size w wr)
    case atStart => exact ⟨[(x, y)], 0, by omega, by simp, rfl, hT, Lib.hid (WfL.one h), Lib.hid rfl, hB1⟩
    case round =>
      obtain ⟨L, k, hf, hk, rfl, hT', HW, HR, hB⟩ := hrel
      clear hT hB1 P
      obtain ⟨b, off, cap, rfl, hcap, hBb, hbl⟩ := hT'.form
      by_cases hlt : k < L.length
      · obtain ⟨b0, off0, cx, cy, hA, _, hv, hd, g1, g2, c0, c1⟩ := hT'.rd.at_ (k := 0) (by simp; omega)
        injection hA with hA
        injection hA with hA hA'
        subst hA
        subst hA'
        simp only [Nat.zero_mul, Nat.add_zero] at c0 c1
        have hLk : L[k]? = some (cx, cy) := by rw [List.getElem?_drop, Nat.add_zero] at hv; exact hv
        have hcy := HW.out.ok _ (List.mem_of_getElem? hLk)
        have hT2 := hT'
        clear hd
        have hd := drop_at hLk
        rw [hd] at hT2
        have HT2 := Lib.hid hT2.cut
        obtain ⟨n, hn⟩ : ∃ n, n = (L.drop k).length := ⟨_, rfl⟩
        rw [← hn] at hcap ⊢
        have hn1 : n = L.length - k := by rw [hn, List.length_drop]
        have hn0 : 0 < n := by omega
        have Hn := Lib.hid hn1
        have HLk := Lib.hid hLk
        clear hT2 hT' hd hv hn hn1 hLk
        have Q := Blk.new wr 35 [.int .i64 cx, .int .i64 cy]
        have Qc := Q.c2
        go_upto_region 4 with fail
        go_cut [6] from 20 to 21 (fun q wx => TlC w.heap.size wx q (L.drop (k + 1)) ∧ wx = wr.alloc (.cells #[.int .i64 cx, .int .i64 cy] 35))
        case first =>
          have hlen : (L.drop (k + 1)).length = n - 1 := by rw [List.length_drop]; have := Hn.out; omega
          by_cases hc1 : cap = 1
          · have HT3 := HT2.out
            have e0 : n - 1 = 0 := by omega
            have e1 : cap - 1 = 0 := by omega
            rw [if_pos hc1, hlen, e0, e1] at HT3
            clear e0 e1
            have HT4 := Lib.hid (TlC.bel HT3 (bl_alloc (Below.refl _ _) (.cells #[.int .i64 cx, .int .i64 cy] 35)))
            clear HT2 HT3 hlen
            subst hc1
            go_wp2_with fail
            go_meet
            exact ⟨HT4.out, rfl⟩
          · have HT3 := HT2.out
            rw [if_neg hc1, hlen] at HT3
            have HT4 := Lib.hid (TlC.bel HT3 (bl_alloc (Below.refl _ _) (.cells #[.int .i64 cx, .int .i64 cy] 35)))
            clear HT2 HT3 hlen
            go_wp2_with fail
            go_meet
            exact ⟨HT4.out, rfl⟩
        case rest =>
          obtain ⟨hT3, rfl⟩ := hcut
          have HT := Lib.hid hT3
          clear HT2 hT3 c0 c1 hcap hBb hbl
          replace hB := bl_alloc hB (.cells #[.int .i64 cx, .int .i64 cy] 35)
          go_wp2_with fail
          (refine (NeighborsOf_i cx cy _).mono ?_; rintro e wy ⟨v, rfl, o1, hbn⟩; have hSz := bl_sz (bl_trans hB (by go_grown)) hbn; replace hB := bl_trans (bl_trans hB (by go_grown)) hbn; replace Q := Q.bel (bl_trans (by go_grown) hbn); replace Qc := Q.c2; have HT0 := HT; replace HT := Lib.hid (HT.out.bel hbn); have hsx := hbn.size; clear hbn)
          obtain ⟨⟨A1, c1, rfl⟩, _⟩ := id o1
          have hlo : (wr.alloc (Obj.cells #[Value.int IntKind.i64 cx, Value.int IntKind.i64 cy] 35)).heap.size = wr.heap.size + 1 := World.size_alloc _ _
          rw [hlo] at hsx o1
          have o2 := Lib.hid (o1.in_ (Nat.le_refl _))
          have hnl := nbrs_len cx cy
          have hq0 : ∀ b, u6.ownBlock = some b → b < wr.heap.size + 1 ∨ wy.heap.size ≤ b := fun b hb => by
            obtain ⟨b1, off1, cap1, e1, _, _, hlt1⟩ := HT0.out.form
            rw [e1] at hb
            injection hb with hb
            rw [hlo] at hlt1
            exact .inl (hb ▸ hlt1)
          have Hq0 := Lib.hid hq0
          clear o1 hq0 hlo HT0 Q Qc
          obtain ⟨wo, rfl⟩ : ∃ wo : World, wo = wr := ⟨_, rfl⟩
          go_wp2_with fail
          go_loopw [5, 6, 25] (fun o q i wr' => ∃ j : Nat, j ≤ (nbrs cx cy).length ∧ i = .int .i64 j ∧ o = .int .u64 ((setL (((nbrs cx cy).take j).foldl (addS s) L) : Nat) : Int) ∧ TlC w.heap.size wr' q ((((nbrs cx cy).take j).foldl (addS s) L).drop (k + 1)) ∧ Hid (∀ b, q.ownBlock = some b → b < wo.heap.size + 1 ∨ wy.heap.size ≤ b) ∧ InC (wo.heap.size + 1) wy.heap.size wr' (.slice A1 (nbrs cx cy).length c1) (nbrs cx cy) ∧ wy.heap.size ≤ wr'.heap.size ∧ Below w.heap.size w wr') (fun _ _ i _ => (nbrs cx cy).length - (intOf i).toNat)
          case atStart => exact ⟨0, by omega, rfl, rfl, HT.out, Hq0, o2.out, Nat.le_refl _, hB⟩
          case round =>
            obtain ⟨j, hj, rfl, rfl, hT5, Hq, hin, hys, hB'⟩ := hrel
            clear hB HT Hq0 o2
            have hB := hB'
            clear hB'
            obtain ⟨M, hM⟩ : ∃ M, M = ((nbrs cx cy).take j).foldl (addS s) L := ⟨_, rfl⟩
            rw [← hM] at hT5 ⊢
            have hMw : WfL s M := by rw [hM]; exact HW.out.foldS fun d hd => nbrs_ok (List.mem_of_mem_take hd)
            have hMl := hMw.len
            have hML : L.length ≤ M.length := by rw [hM]; exact foldS_len _ _ _
            obtain ⟨b5, off5, cap5, rfl, hcap5, hBb5, hbl5⟩ := hT5.form
            obtain ⟨n5, hn5⟩ : ∃ n5, n5 = (M.drop (k + 1)).length := ⟨_, rfl⟩
            rw [← hn5] at hT5 hcap5 ⊢
            have hdl : (M.drop (k + 1)).length ≤ 1048576 := by rw [List.length_drop]; omega
            have Hn5 := Lib.hid hn5
            clear hn5
            have hq5 : b5 < wo.heap.size + 1 ∨ wy.heap.size ≤ b5 := Hq.out b5 rfl
            by_cases hlt2 : j < (nbrs cx cy).length
            · obtain ⟨bb, off6, dx, dy, rfl, hbl6, hv, hd, ga, gb, e0, e1⟩ := hin.rd.at_ hlt2
              have hdo : cellOk dx dy = true := nbrs_ok (c := (dx, dy)) (List.mem_of_getElem? hv)
              have hnext : ((nbrs cx cy).take (j + 1)).foldl (addS s) L = addS s M (dx, dy) := by rw [take_snoc_at hv, List.foldl_append, ← hM]; rfl
              have HM := Lib.hid hM
              have HMw := Lib.hid hMw
              have Hnext := Lib.hid hnext
              have Hin := Lib.hid (hin.bel (bl_alloc (Below.refl _ _) (.cells #[.int .i64 dx, .int .i64 dy] 35)))
              have HT := Lib.hid (hT5.bel (bl_alloc (Below.refl _ _) (.cells #[.int .i64 dx, .int .i64 dy] 35)))
              have Hb5 := Lib.hid hq5
              obtain ⟨sM, hsM⟩ : ∃ sM, sM = setL M := ⟨_, rfl⟩
              have hs5 : sM < 18446744073709551616 := hsM ▸ setL_lt hMw.ok
              rw [← hsM]
              have HsM := Lib.hid hsM
              clear hsM
              have Q := Blk.new wr 35 [.int .i64 dx, .int .i64 dy]
              have Qc := Q.c2
              replace hB := bl_alloc hB (.cells #[.int .i64 dx, .int .i64 dy] 35)
              have hX : wr.heap.size ≤ (wr.alloc (.cells #[.int .i64 dx, .int .i64 dy] 35)).heap.size := by simp
              clear hin hT5 hv hd hM hMw hnext hq5 Hq
              cases t1 : hasBit s dx dy
              · have hst : addS s M (dx, dy) = M := by
                  unfold hasBit at t1; rw [hdo, Bool.true_and] at t1
                  unfold addS; rw [if_neg (by rw [show idxN (dx, dy) = (dy * 8 + dx).toNat from rfl, t1]; decide)]
                have Hst := Lib.hid hst
                have T1 := Lib.hid t1
                clear hst t1
                go_wp2_with (go_at_call 126; refine (has_any s dx dy _ hs).mono ?_; rintro e wn ⟨rfl, hbn⟩; have hSz := bl_sz (bl_trans hB (by go_grown)) hbn; replace hB := bl_trans (bl_trans hB (by go_grown)) hbn; replace Q := Q.bel (bl_trans (by go_grown) hbn); replace Qc := Q.c2; rw [T1.out]; replace HT := Lib.hid (HT.out.bel hbn); replace Hin := Lib.hid (Hin.out.bel hbn); replace hX := Nat.le_trans hX hbn.size; clear hbn)
                go_roundw
                case rel => exact ⟨j + 1, by omega, by go_num, by rw [Hnext.out, Hst.out, HsM.out], by rw [Hnext.out, Hst.out]; exact HT.out, Lib.hid (fun b hb => by injection hb with hb; subst hb; exact Hb5.out), Hin.out, by omega, hB⟩
                case measure => simp [intOf]; omega
              · have t1' : s.testBit (idxN (dx, dy)) = true := by unfold hasBit at t1; rw [hdo, Bool.true_and] at t1; exact t1
                have T1 := Lib.hid t1
                clear t1
                by_cases hm : (dx, dy) ∈ M
                · have hst : addS s M (dx, dy) = M := by unfold addS addC; rw [if_pos t1', if_pos hm]
                  have t2 : hasBit sM dx dy = true := by rw [HsM.out, setL_has (d := (dx, dy)) HMw.out.ok hdo, decide_eq_true hm]
                  have Hst := Lib.hid hst
                  have T2 := Lib.hid t2
                  clear hst t2 t1' hm
                  go_wp2_with (go_at_call 126; refine (has_any _ dx dy _ (by assumption)).mono ?_; rintro e wn ⟨rfl, hbn⟩; have hSz := bl_sz (bl_trans hB (by go_grown)) hbn; replace hB := bl_trans (bl_trans hB (by go_grown)) hbn; replace Q := Q.bel (bl_trans (by go_grown) hbn); replace Qc := Q.c2; (try rw [T1.out]); (try rw [T2.out]); replace HT := Lib.hid (HT.out.bel hbn); replace Hin := Lib.hid (Hin.out.bel hbn); replace hX := Nat.le_trans hX hbn.size; clear hbn)
                  go_roundw
                  case rel => exact ⟨j + 1, by omega, by go_num, by rw [Hnext.out, Hst.out, HsM.out], by rw [Hnext.out, Hst.out]; exact HT.out, Lib.hid (fun b hb => by injection hb with hb; subst hb; exact Hb5.out), Hin.out, by omega, hB⟩
                  case measure => simp [intOf]; omega
                · have hst : addS s M (dx, dy) = M ++ [(dx, dy)] := by unfold addS addC; rw [if_pos t1', if_neg hm]
                  have t2 : hasBit sM dx dy = false := by rw [HsM.out, setL_has (d := (dx, dy)) HMw.out.ok hdo, decide_eq_false hm]
                  have hset : setL (M ++ [(dx, dy)]) = sM ||| nthBit dx dy := by rw [HsM.out]; exact setL_snoc _ _
                  have hdr : (M ++ [(dx, dy)]).drop (k + 1) = M.drop (k + 1) ++ [(dx, dy)] := List.drop_append_of_le_length (by omega)
                  have Hst := Lib.hid hst
                  have T2 := Lib.hid t2
                  have Hset := Lib.hid hset
                  have Hdr := Lib.hid hdr
                  clear hst t2 t1' hm hset hdr
                  go_wp2_with (first | (go_at_call 126; refine (has_any _ dx dy _ (by assumption)).mono ?_; rintro e wn ⟨rfl, hbn⟩; have hSz := bl_sz (bl_trans hB (by go_grown)) hbn; replace hB := bl_trans (bl_trans hB (by go_grown)) hbn; replace Q := Q.bel (bl_trans (by go_grown) hbn); replace Qc := Q.c2; (try rw [T1.out]); (try rw [T2.out]); replace HT := Lib.hid (HT.out.bel hbn); replace Hin := Lib.hid (Hin.out.bel hbn); replace hX := Nat.le_trans hX hbn.size; clear hbn) | (go_at_call 178; refine (with_any sM dx dy _ hs5 hdo).mono ?_; rintro e wn ⟨rfl, hbn⟩; have hSz := bl_sz (bl_trans hB (by go_grown)) hbn; replace hB := bl_trans (bl_trans hB (by go_grown)) hbn; replace Q := Q.bel (bl_trans (by go_grown) hbn); replace Qc := Q.c2; replace HT := Lib.hid (HT.out.bel hbn); replace Hin := Lib.hid (Hin.out.bel hbn); replace hX := Nat.le_trans hX hbn.size; clear hbn) | (at_builtin; refine wpList_atTl rfl (.tmp 41) (.tmp 43) rfl w.heap.size _ (M.drop (k + 1)) dx dy rfl rfl HT.out hB.size hdl ga gb ?_; intro v' w1 ho1 hb1 hg1 hat1 hsz1))
                  go_roundw
                  case rel => exact ⟨j + 1, by omega, by go_num, by rw [Hnext.out, Hst.out, Hset.out], by rw [Hnext.out, Hst.out, Hdr.out]; exact ho1, Lib.hid (fun b hb => by
                    rcases hat1 b hb with h1 | h1
                    · injection h1 with h1; subst h1; exact Hb5.out
                    · right; omega), Hin.out.far hg1 (fun b hb => by injection hb with hb; subst hb; exact Hb5.out), by omega, hb1 _ hB⟩
                  case measure => simp [intOf]; omega
            · have hjn : j = (nbrs cx cy).length := by omega
              subst hjn
              rw [List.take_length] at hM
              have hgk : gk = (gk - 1) + 1 := by omega
              have hfin : bfs s (gk - 1) (k + 1) M = reachL s (x, y) := by
                rw [← HR.out, hM, ← grow_nbrs s L (cx, cy), hgk, Nat.add_sub_cancel, bfs_step HLk.out]
              have HF := Lib.hid hfin
              have HMw := Lib.hid hMw
              have HT := Lib.hid hT5
              clear hM hgk hfin hMw hT5 hin
              go_wp2_with fail
              go_roundg (gk - 1)
              case measure => omega
              case rel => exact ⟨M, k + 1, by omega, by omega, rfl, HT.out, HMw, HF, hB⟩
      · have hkl : k = L.length := by omega
        have hr : (L.drop k).length = 0 := by simp; omega
        rw [hr]
        have HR' := Lib.hid (show L = reachL s (x, y) by rw [← HR.out, bfs_end (by omega)])
        clear hr hT' HR
        go_wp2_with fail
        go_ret
        exact ⟨by rw [← HR'.out]; rfl, hB⟩
end Go.Proofs.Ytdcjhfmkkcakhaa

/-
  l25List of the reference: what it returns, as a plain function; nothing that was there is written; rows of at most 4 entries, at most 8 of them.
-/
import Derived.Test.YtdcjhfmkkcakhaaL25S
import Derived.Deep.RegionLaw
namespace Go.Proofs.Ytdcjhfmkkcakhaa
open Go.ChangeShapes Go.WideShapes Go.ChangeAt Go.RowKit Go.Deep
set_option linter.unusedVariables false

theorem step_append_src {P : Program} {w : World} {ops : Array Oper} {o : Oper} {a : Act} {K : Act → World → Prop} {Q : Exit → Act → World → Prop} {E : Prop} (hgd : o.guard = none) (s x : Operand) (t : TypeId)
    (ho : o.op = .call { callee := .builtin .append, args := #[s, x], argTypes := #[t, t] })
    (base : Nat) (e : TypeId) (z : Value) (sz bytes : Nat) (ht : P.underlying t = some (.slice e)) (hinfo : (P.info? e).map (fun i => (i.zero, i.size, i.bytes)) = some (some z, sz, bytes)) (hzs : z.cells.size = sz) (hsz : 0 < sz) (hby : bytes ≤ 100)
    (v : Value) (n : Nat) (xs : List Value) (hs : a.eval s = v) (hown : w.ownsRow base e sz v n xs) (A : Option Addr) (m c : Nat) (news : List Value) (hx : a.eval x = .slice A m c) (hr : Rd w sz A m news) (h1 : ∀ u ∈ news, u.oneCell' = true) (hn : n ≤ 1048576) (hm : m ≤ 1048576) (hbase : base ≤ w.heap.size)
    (h : ∀ v' w', w'.ownsRow base e sz v' (n + m) (xs ++ news) → w.grownBy w' v.ownBlock → (v'.ownBlock = v.ownBlock ∨ v'.ownBlock = some w.heap.size) → K (a.put o.dst v') w') :
    if Region.wanted o (yielded ops a.tmps) = true then Oper.wp P o a w K Q else E := by
  have hw : Region.wanted o (yielded ops a.tmps) = true := by simp [Region.wanted, hgd]
  rw [if_pos hw]
  exact wp_append_src s x t ho base e z sz bytes ht hinfo hzs hsz hby v n xs hs hown A m c news hx hr h1 hn hm hbase h
theorem step_apsI {W : World} {ops : Array Oper} {o : Oper} {a : Act} {K : Act → World → Prop} {Q : Exit → Act → World → Prop} {E : Prop} (hgd : o.guard = none) (s x : Operand) (ho : o.op = .call { callee := .builtin .append, args := #[s, x], argTypes := #[24, 24] })
    (B : Nat) (v : Value) (l m : List Int) (A : Option Addr) (n c : Nat) (hs : a.eval s = v) (hx : a.eval x = .slice A n c) (hown : OwI B W v l) (hr : RdI W A m) (hnm : n = m.length) (hB : B ≤ W.heap.size) (hn : l.length ≤ 1048576) (hm : m.length ≤ 1048576)
    (h : ∀ A' L c' w1, Hid (L = (l ++ m).length) → OwI B w1 (.slice A' L c') (l ++ m) → (∀ w0, Below B w0 W → Below B w0 w1) → W.grownBy w1 v.ownBlock → K (a.put o.dst (.slice A' L c')) w1) :
    if Region.wanted o (yielded ops a.tmps) = true then Oper.wp Try.prog o a W K Q else E := by
  subst hnm
  obtain ⟨_, o1, o2⟩ := hown
  refine step_append_src (P := Try.prog) hgd s x 24 ho B 3 (.int .i64 0) 1 8 Try.underlying24 (by kernel_rfl) rfl (by decide) (by decide) v l.length (l.map cI) hs o1 A m.length c (m.map cI) hx hr.1 (by intro u hu; obtain ⟨x, _, rfl⟩ := List.mem_map.1 hu; rfl) hn hm hB (fun v' w1 g1 g2 g3 => ?_)
  obtain ⟨A', c', rfl⟩ := own_form g1
  rw [← List.length_append] at g1 ⊢
  exact h A' _ c' w1 (Lib.hid rfl) ⟨⟨_, _, rfl⟩, by simpa using g1, fun y hy => (List.mem_append.1 hy).elim (o2 y) (hr.2 y)⟩ (fun w0 hb => hb.grown g2 hB (fun k hk => (o1.lt k hk).1)) g2
/-- rows that are known by their values alone: a slice of the call's own from B on -/
def OwV (B : Nat) (w : World) (v : Value) (vs : List Value) : Prop := (∃ A c, v = .slice A vs.length c) ∧ w.ownsRow B 24 1 v vs.length vs ∧ ∀ u ∈ vs, u.oneCell' = true
theorem OwV.new_ {B : Nat} {w : World} (hB : B ≤ w.heap.size) : OwV B (w.alloc (.cells #[] 24)) (.slice (some ⟨w.heap.size, 0, none⟩) 0 0) [] := ⟨⟨_, _, rfl⟩, World.ownsRow_made w #[] 0 hB (by simp [maxLen]) (by simp), by simp⟩
theorem OwV.bel {B : Nat} {w w' : World} {v : Value} {vs : List Value} (h : OwV B w v vs) (hb : Below w.heap.size w w') : OwV B w' v vs := ⟨h.1, ownsRow_bel h.2.1 hb, h.2.2⟩
theorem OwV.rdII {B : Nat} {w : World} {A : Option Addr} {n c : Nat} {vs : List Value} {ll : List (List Int)} (h : OwV B w (.slice A n c) vs) (hl : vs.length = ll.length) (hr : ∀ (i : Nat) (l : List Int), ll[i]? = some l → ∃ A' c', vs[i]? = some (.slice A' l.length c') ∧ RdI w A' l) : RdII w A ll := by
  obtain ⟨⟨A', c', e⟩, h1, _⟩ := h
  injection e with e1 e2 e3
  subst e2
  refine ⟨vs, ?_, hr⟩
  have := Rd.of_own h1
  rwa [hl] at this
theorem RdII.vals {w : World} {A : Option Addr} {ll : List (List Int)} (h : RdII w A ll) : ∃ vs, Rd w 1 A ll.length vs ∧ vs.length = ll.length ∧ (∀ u ∈ vs, u.oneCell' = true) ∧ ∀ (i : Nat) (l : List Int), ll[i]? = some l → ∃ A' c', vs[i]? = some (.slice A' l.length c') ∧ RdI w A' l := by
  obtain ⟨vs, h1, h2⟩ := h
  have hl : vs.length = ll.length := by have := h1.1; omega
  refine ⟨vs, h1, hl, fun u hu => ?_, h2⟩
  obtain ⟨i, hi, rfl⟩ := List.getElem_of_mem hu
  obtain ⟨A', c', e, _⟩ := h2 i _ (List.getElem?_eq_getElem (by omega))
  rw [List.getElem?_eq_getElem hi] at e
  injection e with e
  rw [e]; rfl
theorem step_apsV {W : World} {ops : Array Oper} {o : Oper} {a : Act} {K : Act → World → Prop} {Q : Exit → Act → World → Prop} {E : Prop} (hgd : o.guard = none) (s x : Operand) (ho : o.op = .call { callee := .builtin .append, args := #[s, x], argTypes := #[76, 76] })
    (B : Nat) (v : Value) (vs us : List Value) (A : Option Addr) (n c : Nat) (hs : a.eval s = v) (hx : a.eval x = .slice A n c) (hown : OwV B W v vs) (hr : Rd W 1 A n us) (h1 : ∀ u ∈ us, u.oneCell' = true) (hB : B ≤ W.heap.size) (hn : vs.length ≤ 1048576) (hm : us.length ≤ 1048576)
    (h : ∀ A' L c' w1, Hid (L = (vs ++ us).length) → OwV B w1 (.slice A' L c') (vs ++ us) → (∀ w0, Below B w0 W → Below B w0 w1) → W.grownBy w1 v.ownBlock → K (a.put o.dst (.slice A' L c')) w1) :
    if Region.wanted o (yielded ops a.tmps) = true then Oper.wp Try.prog o a W K Q else E := by
  obtain ⟨_, o1, o2⟩ := hown
  have hnl : us.length = n := by have := hr.1; omega
  refine step_append_src (P := Try.prog) hgd s x 76 ho B 24 (.slice none 0 0) 1 24 Try.underlying76 (by kernel_rfl) rfl (by decide) (by decide) v vs.length vs hs o1 A n c us hx hr h1 hn (by omega) hB (fun v' w1 g1 g2 g3 => ?_)
  obtain ⟨A', c', rfl⟩ := own_form g1
  rw [← hnl, ← List.length_append] at g1 ⊢
  exact h A' _ c' w1 (Lib.hid rfl) ⟨⟨_, _, rfl⟩, g1, fun y hy => (List.mem_append.1 hy).elim (o2 y) (h1 y)⟩ (fun w0 hb => hb.grown g2 hB (fun k hk => (o1.lt k hk).1)) g2
theorem OwV.farI {B B2 : Nat} {w w' : World} {v v2 : Value} {vs : List Value} {l : List Int} (h : OwV B w v vs) (k : OwI B2 w v2 l) (hg : w.grownBy w' v2.ownBlock) : OwV B w' v vs := ⟨h.1, h.2.1.kept hg (own_apart h.2.1 (by decide) (own_typ k.2.1)), h.2.2⟩
theorem OwI.farV {B B2 : Nat} {w w' : World} {v v2 : Value} {vs : List Value} {l : List Int} (h : OwI B w v l) (k : OwV B2 w v2 vs) (hg : w.grownBy w' v2.ownBlock) : OwI B w' v l := ⟨h.1, h.2.1.kept hg (own_apart h.2.1 (by decide) (own_typ k.2.1)), h.2.2⟩
theorem step_apsIn3 {wr : World} {ops : Array Oper} {o : Oper} {a : Act} {K : Act → World → Prop} {Q : Exit → Act → World → Prop} {E : Prop} (hgd : o.guard = none) (s x : Operand) (ho : o.op = .call { callee := .builtin .append, args := #[s, x], argTypes := #[78, 78] })
    (lo hi lo2 hi2 : Nat) (v : Value) (ll mm : List (List (List Int))) (A : Option Addr) (n c : Nat) (hs : a.eval s = v) (hx : a.eval x = .slice A n c) (hown : InIII lo hi wr v ll) (hr : InIII lo2 hi2 wr (.slice A n c) mm) (hlo : lo ≤ lo2) (hd : hi ≤ lo2) (hh : hi ≤ hi2) (hbw : hi2 ≤ wr.heap.size) (hB : lo ≤ wr.heap.size) (hn : ll.length ≤ 1048576) (hm : mm.length ≤ 1048576)
    (h : ∀ A' L c' w1, Hid (L = (ll ++ mm).length) → InIII lo w1.heap.size w1 (.slice A' L c') (ll ++ mm) → (∀ w, Below lo w wr → Below lo w w1) → wr.grownBy w1 v.ownBlock → K (a.put o.dst (.slice A' L c')) w1) :
    if Region.wanted o (yielded ops a.tmps) = true then Oper.wp Try.prog o a wr K Q else E := by
  obtain rfl := InS.len hr
  obtain ⟨_, h2, vs, o1, o2⟩ := hown
  obtain ⟨_, _, us, r1, r2⟩ := hr
  have hul : us.length = mm.length := by have := r1.1; omega
  refine step_append_src (P := Try.prog) hgd s x 78 ho lo 76 (.slice none 0 0) 1 24 Try.underlying78 (by kernel_rfl) rfl (by decide) (by decide) v ll.length vs hs o1 A mm.length c us hx (Rd.of_own r1) ?_ hn hm hB (fun v' w1 g1 g2 g3 => ?_)
  · intro y hy
    obtain ⟨i, hi, rfl⟩ := List.getElem_of_mem hy
    obtain ⟨_, q, q1, _⟩ := id r2
    obtain ⟨u, hu, ho, _⟩ := q1 i _ (List.getElem?_eq_getElem (by omega))
    rw [List.getElem?_eq_getElem hi] at hu
    injection hu with hu
    rw [hu]; exact famR_II.one ho
  · obtain ⟨A', c', rfl⟩ := own_form g1
    have := InS.app (T := 76) (I := InII) famR_II (lo := lo) (ll := ll) (mm := mm) (w := wr) h2 o2 r2 hlo hd hh hbw g1 g2 (by rcases g3 with g3 | g3; exact .inl g3; exact .inr (fun k hk => by rw [hk] at g3; injection g3; omega))
    rw [show ll.length + mm.length = (ll ++ mm).length by simp] at this ⊢
    exact h A' _ c' w1 (Lib.hid rfl) this (fun w0 hb => hb.grown g2 hB (fun k hk => (o1.lt k hk).1)) g2
/-! ### the plain step -/
def nx25 (sums r : List Int) : List Int := List.zipWith (· + ·) sums r
def st25 (n : Nat) (rows : List (List Int)) (f : Nat) (head : List (List Int)) (sums r : List Int) : List (List (List Int)) :=
  if (nx25 sums r).all (fun x => inB x 0 1) then sp25 n rows f (head ++ [r]) (nx25 sums r) else []
theorem sp25_succ (n : Nat) (rows : List (List Int)) (f : Nat) (head : List (List Int)) (sums : List Int) : sp25 n rows (f + 1) head sums = rows.flatMap (st25 n rows f head sums) := rfl
theorem flat_len' {α β : Type} (f : α → List β) (m : Nat) (l : List α) (h : ∀ x ∈ l, (f x).length ≤ m) : (l.flatMap f).length ≤ l.length * m := by
  induction l with
  | nil => simp
  | cons x l ih =>
    rw [List.flatMap_cons, List.length_append, List.length_cons, Nat.succ_mul]
    have := h x (by simp)
    have := ih (fun y hy => h y (by simp [hy]))
    omega
theorem sp25_len (n : Nat) {rows : List (List Int)} (h8 : rows.length ≤ 8) : ∀ (f : Nat) (head : List (List Int)) (sums : List Int), (sp25 n rows f head sums).length ≤ 8 ^ f := by
  intro f
  induction f with
  | zero => intro head sums; rw [sp25]; split <;> simp
  | succ f ih =>
    intro head sums
    rw [sp25_succ]
    refine Nat.le_trans (flat_len' _ (8 ^ f) _ fun r _ => ?_) ?_
    · unfold st25; split
      · exact ih _ _
      · simp
    · rw [Nat.pow_succ, Nat.mul_comm (8 ^ f)]
      exact Nat.mul_le_mul_right _ h8
def spTo (n : Nat) (rows : List (List Int)) (f : Nat) (head : List (List Int)) (sums : List Int) (i : Nat) : List (List (List Int)) := (rows.take i).flatMap (st25 n rows f head sums)
theorem spTo_succ {n : Nat} {rows : List (List Int)} {f : Nat} {head : List (List Int)} {sums : List Int} {i : Nat} {r : List Int} (h : rows[i]? = some r) : spTo n rows f head sums (i + 1) = spTo n rows f head sums i ++ st25 n rows f head sums r := by
  unfold spTo; rw [take_snoc_at h, List.flatMap_append]; simp
theorem spTo_len {n : Nat} {rows : List (List Int)} (h8 : rows.length ≤ 8) (f : Nat) (head : List (List Int)) (sums : List Int) (i : Nat) : (spTo n rows f head sums i).length ≤ 8 ^ (f + 1) := by
  refine Nat.le_trans (flat_len' _ (8 ^ f) _ fun r _ => ?_) ?_
  · unfold st25; split
    · exact sp25_len n h8 _ _ _
    · simp
  · rw [Nat.pow_succ, Nat.mul_comm (8 ^ f)]
    exact Nat.mul_le_mul_right _ (by rw [List.length_take]; omega)
theorem eight {f : Nat} (h : f ≤ 4) : 8 ^ f ≤ 4096 := Nat.le_trans (Nat.pow_le_pow_right (by decide) h) (by decide)
theorem nx25_at {sums r : List Int} {k : Nat} {x y : Int} (hx : sums[k]? = some x) (hy : r[k]? = some y) : (nx25 sums r)[k]? = some (x + y) := by simp [nx25, List.getElem?_zipWith, hx, hy]
theorem nx25_len {sums r : List Int} (h : sums.length = r.length) : (nx25 sums r).length = r.length := by simp [nx25, h]
def okTo25 (l : List Int) (k : Nat) : Bool := (l.take k).all fun x => inB x 0 1
theorem okTo25_succ {l : List Int} {k : Nat} {x : Int} (h : l[k]? = some x) : okTo25 l (k + 1) = (okTo25 l k && inB x 0 1) := by
  unfold okTo25; rw [take_snoc_at h]; simp
theorem rd_snoc {head : List (List Int)} {r : List Int} {vs : List Value} {w w8 : World} {j : Nat} {l : List Int} {A7 : Option Addr} {L7 c7 : Nat} (hv3 : ∀ (i : Nat) (l : List Int), head[i]? = some l → ∃ A' c', vs[i]? = some (.slice A' l.length c') ∧ RdI w A' l) (hb : Below w.heap.size w w8) (hl : vs.length = head.length) (hL : L7 = (([] : List Int) ++ r).length) (hr : RdI w8 A7 ([] ++ r)) (h : (head ++ [r])[j]? = some l) :
    ∃ A' c', (([] : List Value) ++ vs ++ [Value.slice A7 L7 c7])[j]? = some (.slice A' l.length c') ∧ RdI w8 A' l := by
  rw [List.nil_append] at hL hr ⊢
  by_cases hj : j < head.length
  · rw [List.getElem?_append_left hj] at h
    obtain ⟨A', c', e, h2⟩ := hv3 j l h
    exact ⟨A', c', by rw [List.getElem?_append_left (by omega)]; exact e, h2.below hb⟩
  · rw [List.getElem?_append_right (by omega)] at h
    have hz : j - head.length = 0 := by
      rcases Nat.eq_zero_or_pos (j - head.length) with e | e
      · exact e
      · rw [List.getElem?_eq_none (by simp; omega)] at h; cases h
    rw [hz] at h
    obtain rfl : r = l := by simpa using h
    exact ⟨A7, c7, by rw [List.getElem?_append_right (by omega), hl, hz, hL]; rfl, hr⟩
set_option maxRecDepth 100000 in
set_option maxHeartbeats 4000000 in
theorem l25List_step (n : Nat) (h1 : 1 ≤ n) (h4 : n ≤ 4) (rows : List (List Int)) (h8 : rows.length ≤ 8) (hrr : ∀ r ∈ rows, r.length = n ∧ ∀ x ∈ r, -1 ≤ x ∧ x ≤ 1) (RA : Option Addr) (M rc : Nat) (hM : M = rows.length) (f : Nat) (hf : f < 4)
    (ih : ∀ (head : List (List Int)) (sums : List Int) (HA SA : Option Addr) (N hc sc : Nat) (w : World), N = head.length → n = N + f → (∀ r ∈ head, r.length ≤ 1048576) → n = sums.length → (∀ x ∈ sums, 0 ≤ x ∧ x ≤ 1) → RdII w RA rows → RdII w HA head → RdI w SA sums →
      Calls Try.prog 206 #[.int .i64 (n : Int), .slice RA M rc, .slice HA N hc, .slice SA n sc] w fun e w' => ∃ v, e = .returned v ∧ InIII w.heap.size w'.heap.size w' v (sp25 n rows f head sums) ∧ Below w.heap.size w w')
    (head : List (List Int)) (sums : List Int) (HA SA : Option Addr) (N hc sc : Nat) (w : World) (hN : N = head.length) (hnf : n = N + (f + 1)) (hhr : ∀ r ∈ head, r.length ≤ 1048576) (hsl : n = sums.length) (hs01 : ∀ x ∈ sums, 0 ≤ x ∧ x ≤ 1) (hR : RdII w RA rows) (hH : RdII w HA head) (hS : RdI w SA sums) :
    Calls Try.prog 206 #[.int .i64 (n : Int), .slice RA M rc, .slice HA N hc, .slice SA n sc] w fun e w' => ∃ v, e = .returned v ∧ InIII w.heap.size w'.heap.size w' v (sp25 n rows (f + 1) head sums) ∧ Below w.heap.size w w' := by
  have e0 : ((N : Int) == (n : Int)) = false := by simp; omega
  have hB0 := bl_alloc (Below.refl w.heap.size w) (.cells #[] 76)
  have ow := Lib.hid (InS.new_ 76 InII (lo := w.heap.size) (hi := w.heap.size + 1) (w := w) (Nat.le_refl _) (Nat.lt_succ_self _))
  have hM8 : M ≤ 8 := by omega
  have hN4 : N < n := by omega
  have HM := Lib.hid hM
  have HN := Lib.hid hN
  have HSL := Lib.hid hsl
  have HNF := Lib.hid hnf
  have HR := Lib.hid hR
  have HH := Lib.hid hH
  have HS := Lib.hid hS
  have HS01 := Lib.hid hs01
  have Hhr := Lib.hid hhr
  have Hrr := Lib.hid hrr
  have Ih := Lib.hid ih
  have H8 := Lib.hid h8
  have hlen := Lib.hid (fun i => Nat.le_trans (spTo_len (n := n) h8 f head sums i) (eight (f := f + 1) (by omega)))
  have hlen2 := Lib.hid (fun (hd : List (List Int)) (sm : List Int) => Nat.le_trans (sp25_len n h8 f hd sm) (eight (f := f) (by omega)))
  have Hend := Lib.hid (show sp25 n rows (f + 1) head sums = spTo n rows f head sums M by rw [sp25_succ, spTo, List.take_of_length_le (by omega)])
  clear hM hN hsl hnf hR hH hS hs01 hhr hrr ih h8
  go_enter Try.func206, Try.ntmps206
  go_wp2_with fail
  go_loopw [9, 13] (fun v q wr => ∃ i : Nat, i ≤ M ∧ q = .int .i64 i ∧ InIII w.heap.size wr.heap.size wr v (spTo n rows f head sums i) ∧ Below w.heap.size w wr) (fun _ q _ => M - (intOf q).toNat)
  case atStart => exact ⟨0, by omega, rfl, by rw [World.size_alloc]; exact ow.out, hB0⟩
  case round =>
    obtain ⟨i, hi, rfl, hI, hB⟩ := hrel
    obtain ⟨⟨A3, c3, rfl⟩, _⟩ := id hI
    clear ow hB0
    have hsz := hB.size
    generalize hL3 : (spTo n rows f head sums i).length = L3 at hI ⊢
    have HI := Lib.hid hI
    have HL3 := Lib.hid hL3
    clear hI hL3
    by_cases hlt : i < M
    · obtain ⟨b1, off1, r, A1, c1, rfl, hbw, hr, _, hrr0, hc0⟩ := HR.out.at_ (k := i) (by have := HM.out; omega)
      have hrr1 := hrr0.below hB
      have hc1 := (hB.cell (p := ⟨b1, off1 + i, none⟩) hbw).trans hc0
      have hb1 : b1 < wr.heap.size := Nat.lt_of_lt_of_le hbw hsz
      clear hrr0 hc0
      have hrl := (Hrr.out r (List.mem_of_getElem? hr)).1
      have hr1 := Lib.hid (Hrr.out r (List.mem_of_getElem? hr)).2
      have Hrl := Lib.hid hrl
      rw [hrl] at hc1
      have Hstep := Lib.hid (spTo_succ (n := n) (f := f) (head := head) (sums := sums) hr)
      have Hrr1 := Lib.hid hrr1
      have Hr := Lib.hid hr
      clear hr hrr1 hrl
      have ow2 := Lib.hid (OwI.new_ (B := wr.heap.size) (w := wr) (Nat.le_refl _))
      have hB2 := Below.alloc (Below.refl wr.heap.size wr) (Nat.le_refl _) (.cells #[] 3)
      have hz2 : (wr.alloc (.cells #[] 3)).heap.size = wr.heap.size + 1 := World.size_alloc ..
      obtain ⟨wo, rfl⟩ : ∃ wo : World, wo = wr := ⟨_, rfl⟩
      obtain ⟨nx, hnx⟩ : ∃ nx, nx = nx25 sums r := ⟨_, rfl⟩
      have Hnx := Lib.hid hnx
      have hnl := Lib.hid (show nx.length = n by rw [hnx, nx25_len (by rw [← HSL.out, Hrl.out]), Hrl.out])
      clear hnx
      go_wp2_with fail
      go_loopw [14, 15, 16] (fun v o q w2 => ∃ (k : Nat) (ob : Bool), k ≤ n ∧ q = .int .i64 k ∧ o = .bool ob ∧ Hid (ob = okTo25 nx k) ∧ OwI wo.heap.size w2 v (nx.take k) ∧ Below wo.heap.size wo w2) (fun _ _ q _ => n - (intOf q).toNat)
      case atStart => exact ⟨0, true, by omega, rfl, rfl, Lib.hid rfl, ow2.out, hB2⟩
      case round =>
        obtain ⟨k, ob, hk, rfl, rfl, Hob, hO, hb2⟩ := hrel
        obtain ⟨⟨A4, c4, rfl⟩, _⟩ := id hO
        clear ow2 hB2 hz2
        have hs2 := hb2.size
        generalize hL4 : (nx.take k).length = L4 at hO ⊢
        have HO := Lib.hid hO
        have HL4 := Lib.hid hL4
        clear hO hL4
        have hc2 := (hb2.cell (p := ⟨b1, off1 + i, none⟩) hb1).trans hc1
        by_cases hlt2 : k < n
        · obtain ⟨b3, off3, x, rfl, hb3, hx, _, _, cx0⟩ := HS.out.at_ (k := k) (by rw [← HSL.out]; exact hlt2)
          obtain ⟨b4, off4, y, rfl, hb4, hy, _, _, cy0⟩ := Hrr1.out.at_ (k := k) (by rw [Hrl.out]; exact hlt2)
          have cx := ((bl_trans hB hb2).cell (p := ⟨b3, off3 + k, none⟩) hb3).trans cx0
          have cy := (hb2.cell (p := ⟨b4, off4 + k, none⟩) hb4).trans cy0
          have hx01 := HS01.out x (List.mem_of_getElem? hx)
          have hy01 := hr1.out y (List.mem_of_getElem? hy)
          have hz : nx[k]? = some (x + y) := by rw [Hnx.out]; exact nx25_at hx hy
          have Htk := Lib.hid (take_snoc_at hz)
          have Hok2 := Lib.hid (show okTo25 nx (k + 1) = (ob && inB (x + y) 0 1) by rw [okTo25_succ hz, Hob.out])
          have hwr : IntKind.i64.wrap (x + y) = x + y := IntWalk.i64_in _ (by omega)
          have hti : (nx.take k).length ≤ 1048576 := by rw [List.length_take]; omega
          have hkl := Lib.hid (show (nx.take k).length = k by rw [List.length_take, hnl.out]; omega)
          have hB2 := Lib.hid (bl_trans hB hb2)
          have Hb2 := Lib.hid hb2
          have HB := Lib.hid hB
          clear cx0 cy0 hx hy hz hb2 hB hc1
          have hk0 : (0 : Int) ≤ (k : Int) := by omega
          have hkn : (k : Int) < (n : Int) := by omega
          have hi0 : (0 : Int) ≤ (i : Int) := by omega
          have hiM : (i : Int) < (M : Int) := by omega
          have Hkx := Lib.hid (show (nx.take k ++ [x + y])[k]? = some (x + y) by rw [List.getElem?_append_right (by rw [hkl.out]; exact Nat.le_refl _), hkl.out, Nat.sub_self]; rfl)
          have hb3' : b3 < wo.heap.size := by omega
          have hkl2 : k < (nx.take k ++ [x + y]).length := by rw [List.length_append, hkl.out]; exact Nat.lt_succ_self _
          cases ob
          · have Hnew := Lib.hid (show false = okTo25 nx (k + 1) by rw [Hok2.out, Bool.false_and])
            go_wp2_with fail
            go_region_held3 (fun w' => w'.cell? ⟨b3, off3 + k, none⟩ = some (.int .i64 x) ∧ w'.cell? ⟨b1, off1 + i, none⟩ = some (.slice (some ⟨b4, off4, none⟩) n c1) ∧ w'.cell? ⟨b4, off4 + k, none⟩ = some (.int .i64 y)) (go_keep)
              ((refine step_as1Id (by rfl) (.tmp 64) (.tmp 77) (by rfl) wo.heap.size _ _ _ (by rfl) (by rfl) (by exact HO.out) hs2 hti ⟨by omega, by omega⟩ ?_; intro A5 L5 c5 w5 hL5 o5 b5 g5 s5; have hkL := Nat.lt_of_lt_of_eq hkl2 hL5.out.symm; have HO5 := Lib.hid o5; have Hb5 := Lib.hid (b5 _ Hb2.out); have kx := ((b5 wr (Below.refl _ _)).cell (p := ⟨b3, off3 + k, none⟩) hb3').trans cx; have ky := ((b5 wr (Below.refl _ _)).cell (p := ⟨b4, off4 + k, none⟩) hb4).trans cy; have kc := ((b5 wr (Below.refl _ _)).cell (p := ⟨b1, off1 + i, none⟩) hb1).trans hc2; obtain ⟨g6, off6, z6, hA6, _, hz6, _, _, cz6⟩ := o5.rd.at_ (k := k) hkl2; rw [Hkx.out] at hz6; injection hz6 with hz6; subst hz6; subst hA6; clear o5 b5 g5))
            go_wp2_with fail
            go_roundw
            case rel => exact ⟨k + 1, false, by omega, by go_num, rfl, Hnew, by rw [Htk.out]; exact HO5.out, Hb5.out⟩
            case measure => simp [intOf]; omega
          · cases hin : inB (x + y) 0 1
            all_goals
            · have Hnew := Lib.hid (show inB (x + y) 0 1 = okTo25 nx (k + 1) by rw [Hok2.out, Bool.true_and])
              rw [hin] at Hnew
              go_wp2_with fail
              go_region_held3 (fun w' => w'.cell? ⟨b3, off3 + k, none⟩ = some (.int .i64 x) ∧ w'.cell? ⟨b1, off1 + i, none⟩ = some (.slice (some ⟨b4, off4, none⟩) n c1) ∧ w'.cell? ⟨b4, off4 + k, none⟩ = some (.int .i64 y)) (go_keep)
                ((refine step_as1Id (by rfl) (.tmp 64) (.tmp 77) (by rfl) wo.heap.size _ _ _ (by rfl) (by rfl) (by exact HO.out) hs2 hti ⟨by omega, by omega⟩ ?_; intro A5 L5 c5 w5 hL5 o5 b5 g5 s5; have hkL := Nat.lt_of_lt_of_eq hkl2 hL5.out.symm; have HO5 := Lib.hid o5; have Hb5 := Lib.hid (b5 _ Hb2.out); have kx := ((b5 wr (Below.refl _ _)).cell (p := ⟨b3, off3 + k, none⟩) hb3').trans cx; have ky := ((b5 wr (Below.refl _ _)).cell (p := ⟨b4, off4 + k, none⟩) hb4).trans cy; have kc := ((b5 wr (Below.refl _ _)).cell (p := ⟨b1, off1 + i, none⟩) hb1).trans hc2; obtain ⟨g6, off6, z6, hA6, _, hz6, _, _, cz6⟩ := o5.rd.at_ (k := k) hkl2; rw [Hkx.out] at hz6; injection hz6 with hz6; subst hz6; subst hA6; clear o5 b5 g5))
              go_wp2_with (go_at_call 128; refine (l01In_any _ _ _ _).mono ?_; rintro e wn ⟨rfl, rfl⟩)
              go_roundw
              case rel => exact ⟨k + 1, _, by omega, by go_num, rfl, Hnew, by rw [Htk.out]; exact HO5.out, Hb5.out⟩
              case measure => simp [intOf]; omega
        · obtain rfl : k = n := by omega
          have hLk : L4 = k := by rw [← HL4.out, List.length_take, hnl.out]; exact Nat.min_self k
          subst hLk
          rw [List.take_of_length_le (by rw [hnl.out]; exact Nat.le_refl _)] at HO
          have hbn : ob = nx.all (fun x => inB x 0 1) := by rw [Hob.out, okTo25, List.take_of_length_le (by rw [hnl.out]; exact Nat.le_refl _)]
          cases ob
          · have Hs2 := Lib.hid (show spTo L4 rows f head sums (i + 1) = spTo L4 rows f head sums i by rw [Hstep.out, st25, ← Hnx.out, ← hbn]; simp)
            have HI2 := Lib.hid (InS.wide (InIII.bel HI.out hb2) (Nat.le_refl _) hs2)
            have hB2 := bl_trans hB hb2
            clear hbn Hob hb2 hB
            go_wp2_with fail
            go_roundw
            case rel => exact ⟨i + 1, by omega, by go_num, by rw [Hs2.out]; exact HI2.out, hB2⟩
            case measure => simp [intOf]; omega
          · have Hs2 := Lib.hid (show spTo L4 rows f head sums (i + 1) = spTo L4 rows f head sums i ++ sp25 L4 rows f (head ++ [r]) nx by rw [Hstep.out, st25, ← Hnx.out, ← hbn]; simp)
            have Hnx01 := Lib.hid (show ∀ x ∈ nx, 0 ≤ x ∧ x ≤ 1 from fun x hx => inB_true.1 (List.all_eq_true.1 hbn.symm x hx))
            have hB2 := Lib.hid (bl_trans hB hb2)
            have Hb2 := Lib.hid hb2
            have hrl2 : r.length ≤ 1048576 := by rw [Hrl.out]; omega
            have Hhr2 := Lib.hid (show ∀ q ∈ head ++ [r], q.length ≤ 1048576 from fun q hq => by
              rcases List.mem_append.1 hq with hq | hq
              · exact Hhr.out q hq
              · simp at hq; subst hq; exact hrl2)
            obtain ⟨vs, hv1, hvl0, hv2, hv3⟩ := (HH.out.below hB2.out).vals
            rw [← HN.out] at hv1
            have hvl := Lib.hid hvl0
            have Hv2 := Lib.hid hv2
            have Hv3 := Lib.hid hv3
            have hvs : vs.length ≤ 1048576 := by rw [hvl0, ← HN.out]; omega
            have h0l : ([] : List Value).length ≤ 1048576 := by simp
            have h0i : ([] : List Int).length ≤ 1048576 := by simp
            have h1l : ∀ u : Value, [u].length ≤ 1048576 := by simp
            have h1c : ∀ (A : Option Addr) (L c : Nat), ∀ u ∈ [Value.slice A L c], u.oneCell' = true := by intro A L c u hu; simp at hu; subst hu; rfl
            have Hl8 := Lib.hid (show ∀ (L8 : Nat) (A : Option Addr) (L c : Nat), L8 = (([] : List Value) ++ vs ++ [Value.slice A L c]).length → L8 = (head ++ [r]).length ∧ L4 = L8 + f from fun L8 A L c e => by
              have := HNF.out
              have := HN.out
              simp [hvl0] at e ⊢
              omega)
            have Hl9 := Lib.hid (show ∀ u : Value, (([] : List Value) ++ vs ++ [u]).length = (head ++ [r]).length from fun u => by simp [hvl0])
            have hb1w : b1 < wr.heap.size := Nat.lt_of_lt_of_le hb1 hs2
            have hsw : w.heap.size ≤ wr.heap.size := Nat.le_trans hsz hs2
            have hln1 : (spTo L4 rows f head sums i).length ≤ 1048576 := Nat.le_trans (hlen.out i) (by decide)
            have hln2 : ∀ hd sm, (sp25 L4 rows f hd sm).length ≤ 1048576 := fun hd sm => Nat.le_trans (hlen2.out hd sm) (by decide)
            have Hln2 := Lib.hid hln2
            have hz1 : wr.heap.size ≤ ((wr.alloc (.cells #[] 24)).alloc (.cells #[] 3)).drew.heap.size := by show wr.heap.size ≤ ((wr.alloc (.cells #[] 24)).alloc (.cells #[] 3)).heap.size; rw [World.size_alloc, World.size_alloc]; omega
            have hz2 : wr.heap.size ≤ ((wr.alloc (.cells #[] 3)).alloc (.cells #[] 24)).drew.heap.size := by show wr.heap.size ≤ ((wr.alloc (.cells #[] 3)).alloc (.cells #[] 24)).heap.size; rw [World.size_alloc, World.size_alloc]; omega
            have hz3 : wr.heap.size ≤ (wr.alloc (.cells #[] 24)).drew.heap.size := by show wr.heap.size ≤ (wr.alloc (.cells #[] 24)).heap.size; rw [World.size_alloc]; omega
            have hal : ∀ (W : World) (o : Obj), Below W.heap.size W (W.alloc o) := fun W o => Below.alloc (Below.refl _ _) (Nat.le_refl _) o
            have nA : OwV wr.heap.size (wr.alloc (.cells #[] 24)) (.slice (some ⟨wr.heap.size, 0, none⟩) 0 0) [] := OwV.new_ (Nat.le_refl _)
            have nB : OwI wr.heap.size (wr.alloc (.cells #[] 3)) (.slice (some ⟨wr.heap.size, 0, none⟩) 0 0) [] := OwI.new_ (Nat.le_refl _)
            have nB2 : OwI wr.heap.size ((wr.alloc (.cells #[] 24)).alloc (.cells #[] 3)) (.slice (some ⟨wr.heap.size + 1, 0, none⟩) 0 0) [] := by
              have := OwI.new_ (B := wr.heap.size) (w := wr.alloc (.cells #[] 24)) (by rw [World.size_alloc]; omega)
              rwa [World.size_alloc] at this
            have nA2 : OwV wr.heap.size ((wr.alloc (.cells #[] 3)).alloc (.cells #[] 24)) (.slice (some ⟨wr.heap.size + 1, 0, none⟩) 0 0) [] := by
              have := OwV.new_ (B := wr.heap.size) (w := wr.alloc (.cells #[] 3)) (by rw [World.size_alloc]; omega)
              rwa [World.size_alloc] at this
            have F1a : Hid (OwV wr.heap.size ((wr.alloc (.cells #[] 24)).alloc (.cells #[] 3)).drew (.slice (some ⟨wr.heap.size, 0, none⟩) 0 0) []) := Lib.hid (nA.bel (bl_drew (hal _ _)))
            have F1b : Hid (OwI wr.heap.size ((wr.alloc (.cells #[] 24)).alloc (.cells #[] 3)).drew (.slice (some ⟨wr.heap.size + 1, 0, none⟩) 0 0) []) := Lib.hid nB2
            have F2a : Hid (OwV wr.heap.size ((wr.alloc (.cells #[] 3)).alloc (.cells #[] 24)).drew (.slice (some ⟨wr.heap.size + 1, 0, none⟩) 0 0) []) := Lib.hid nA2
            have F2b : Hid (OwI wr.heap.size ((wr.alloc (.cells #[] 3)).alloc (.cells #[] 24)).drew (.slice (some ⟨wr.heap.size, 0, none⟩) 0 0) []) := Lib.hid (nB.bel (bl_drew (hal _ _)))
            have F3a : Hid (OwV wr.heap.size (wr.alloc (.cells #[] 24)).drew (.slice (some ⟨wr.heap.size, 0, none⟩) 0 0) []) := Lib.hid nA
            have R1 : Hid (Rd ((wr.alloc (.cells #[] 24)).alloc (.cells #[] 3)).drew 1 HA N vs) := Lib.hid (hv1.below (bl_drew ((hal _ _).trans ((hal _ _).mono (by rw [World.size_alloc]; omega)))))
            have R2 : Hid (Rd ((wr.alloc (.cells #[] 3)).alloc (.cells #[] 24)).drew 1 HA N vs) := Lib.hid (hv1.below (bl_drew ((hal _ _).trans ((hal _ _).mono (by rw [World.size_alloc]; omega)))))
            have R3 : Hid (Rd (wr.alloc (.cells #[] 24)).drew 1 HA N vs) := Lib.hid (hv1.below (bl_drew (hal _ _)))
            have hi0 : (0 : Int) ≤ (i : Int) := by omega
            have hiM : (i : Int) < (M : Int) := by omega
            clear hbn Hob hb2 hB hv1 hvl0 hv2 hv3 hln2 hal nA nB nA2 nB2
            go_wp2_with fail
            go_region_held3 (fun w' => w'.cell? ⟨b1, off1 + i, none⟩ = some (.slice A1 L4 c1)) (go_keep)
              (first | (refine step_apsV (W := ((wr.alloc (.cells #[] 24)).alloc (.cells #[] 3)).drew) (by rfl) (.tmp 91) (.tmp 92) (by rfl) wr.heap.size _ [] vs HA N hc (by rfl) (by rfl) F1a.out R1.out Hv2.out hz1 h0l hvs ?_; intro A6 L6 c6 w6 hL6 o6 b6 g6; have hW6 := b6 wr (by go_grown); have kc6 := (hW6.cell (p := ⟨b1, off1 + i, none⟩) hb1w).trans hc2; have O6 := Lib.hid o6; have HW6 := Lib.hid hW6; have hs6 := hW6.size; have OE := Lib.hid (OwI.farV F1b.out F1a.out g6); clear o6 b6 g6 hW6) |
(refine step_apsV (W := ((wr.alloc (.cells #[] 3)).alloc (.cells #[] 24)).drew) (by rfl) (.tmp 91) (.tmp 92) (by rfl) wr.heap.size _ [] vs HA N hc (by rfl) (by rfl) F2a.out R2.out Hv2.out hz2 h0l hvs ?_; intro A6 L6 c6 w6 hL6 o6 b6 g6; have hW6 := b6 wr (by go_grown); have kc6 := (hW6.cell (p := ⟨b1, off1 + i, none⟩) hb1w).trans hc2; have O6 := Lib.hid o6; have HW6 := Lib.hid hW6; have hs6 := hW6.size; have OE := Lib.hid (OwI.farV F2b.out F2a.out g6); clear o6 b6 g6 hW6) |
(refine step_apsV (W := (wr.alloc (.cells #[] 24)).drew) (by rfl) (.tmp 91) (.tmp 92) (by rfl) wr.heap.size _ [] vs HA N hc (by rfl) (by rfl) F3a.out R3.out Hv2.out hz3 h0l hvs ?_; intro A6 L6 c6 w6 hL6 o6 b6 g6; have hW6 := b6 wr (by go_grown); have kc6 := (hW6.cell (p := ⟨b1, off1 + i, none⟩) hb1w).trans hc2; have O6 := Lib.hid o6; have HW6 := Lib.hid hW6; have hs6 := hW6.size; skip; clear o6 b6 g6 hW6) |
(refine step_apsI (W := w6) (by rfl) (.tmp 94) (.tmp 98) (by rfl) wr.heap.size _ [] r A1 L4 c1 (by rfl) (by rfl) OE.out (Hrr1.out.below (Hb2.out.trans (HW6.out.mono hs2))) Hrl.out.symm hs6 h0i hrl2 ?_; intro A7 L7 c7 w7 hL7 o7 b7 g7; have hW7 := b7 wr HW6.out; have kc7 := (hW7.cell (p := ⟨b1, off1 + i, none⟩) hb1w).trans hc2; have O7 := Lib.hid o7; have HW7 := Lib.hid hW7; have hs7 := hW7.size; have OV7 := Lib.hid (O6.out.farI OE.out g7); clear o7 b7 g7 hW7) |
(refine step_apsI (W := w6.alloc (.cells #[] 3)) (by rfl) (.tmp 94) (.tmp 98) (by rfl) wr.heap.size _ [] r A1 L4 c1 (by rfl) (by rfl) (OwI.new_ hs6) (Hrr1.out.below (Hb2.out.trans ((HW6.out.alloc hs6 _).mono hs2))) Hrl.out.symm (Nat.le_trans hs6 (by simp)) h0i hrl2 ?_; intro A7 L7 c7 w7 hL7 o7 b7 g7; have hW7 := b7 wr (HW6.out.alloc hs6 _); have kc7 := (hW7.cell (p := ⟨b1, off1 + i, none⟩) hb1w).trans hc2; have O7 := Lib.hid o7; have HW7 := Lib.hid hW7; have hs7 := hW7.size; have OV7 := Lib.hid ((OwV.bel O6.out (Below.alloc (Below.refl _ _) (Nat.le_refl _) _)).farI (OwI.new_ hs6) g7); clear o7 b7 g7 hW7) |
(refine step_apsV (W := w7.alloc (.cells #[.slice A7 L7 c7] 24)) (by rfl) (.tmp 93) (.tmp 100) (by rfl) wr.heap.size _ ([] ++ vs) [.slice A7 L7 c7] (some ⟨w7.heap.size, 0, none⟩) 1 1 (by rfl) (by rfl) (OwV.bel OV7.out (Below.alloc (Below.refl _ _) (Nat.le_refl _) _)) ((Blk.new w7 24 [.slice A7 L7 c7]).rd rfl) (h1c _ _ _) (Nat.le_trans hs7 (by simp)) hvs (h1l _) ?_; intro A8 L8 c8 w8 hL8 o8 b8 g8; have hW8 := b8 wr (HW7.out.alloc hs7 _); have kc8 := (hW8.cell (p := ⟨b1, off1 + i, none⟩) hb1w).trans hc2; have O8 := Lib.hid o8; have HW8 := Lib.hid hW8; have hs8 := hW8.size; have O78 := Lib.hid (OwI.farV (OwI.bel O7.out (Below.alloc (Below.refl _ _) (Nat.le_refl _) _)) (OwV.bel OV7.out (Below.alloc (Below.refl _ _) (Nat.le_refl _) _)) g8); clear o8 b8 g8 hW8) |
(go_at_call 206; refine (Ih.out (head ++ [r]) nx A8 A4 L8 c8 c4 w8 (Hl8.out _ _ _ _ hL8.out).1 (Hl8.out _ _ _ _ hL8.out).2 Hhr2.out hnl.out.symm Hnx01.out (HR.out.below (hB2.out.trans (HW8.out.mono hsw))) (OwV.rdII O8.out (Hl9.out _) (fun j l hl => rd_snoc Hv3.out HW8.out hvl.out hL7.out O78.out.rd hl)) (HO.out.rd.below HW8.out)).mono ?_; rintro e w9 ⟨v9, rfl, i9, hb9⟩; obtain ⟨⟨A9, c9, rfl⟩, _⟩ := id i9; have I9 := Lib.hid i9; have HW9 := Lib.hid (HW8.out.trans (hb9.mono hs8)); have hs9 := hb9.size; have kc9 := (HW9.out.cell (p := ⟨b1, off1 + i, none⟩) hb1w).trans hc2; clear i9 hb9) |
(refine step_apsIn3 (by rfl) (.tmp 88) (.tmp 103) (by rfl) w.heap.size wo.heap.size w8.heap.size w9.heap.size _ (spTo L4 rows f head sums i) (sp25 L4 rows f (head ++ [r]) nx) A9 _ c9 (by rfl) (by rfl) (InIII.bel HI.out (Hb2.out.trans (HW9.out.mono hs2))) I9.out (Nat.le_trans hsw hs8) (Nat.le_trans hs2 hs8) (Nat.le_trans hs2 (Nat.le_trans hs8 hs9)) (Nat.le_refl _) (Nat.le_trans hsw (Nat.le_trans hs8 hs9)) hln1 (Hln2.out _ _) ?_; intro A10 L10 c10 w10 hL10 o10 b10 g10; have O10 := Lib.hid o10; have HB10 := Lib.hid (b10 _ (hB2.out.trans (HW9.out.mono hsw))); have kc10 := ((b10 w9 (Below.refl _ _)).cell (p := ⟨b1, off1 + i, none⟩) hbw).trans kc9; clear o10 b10 g10))
            all_goals
              go_wp2_with fail
              go_roundw
              case rel => exact ⟨i + 1, by omega, by go_num, by rw [Hs2.out]; exact O10.out, HB10.out⟩
              case measure => simp [intOf]; omega
    · obtain rfl : i = M := by omega
      go_wp2_with fail
      go_ret
      exact ⟨_, rfl, by rw [Hend.out]; exact HI.out, hB⟩
theorem l25List_any (n : Nat) (h1 : 1 ≤ n) (h4 : n ≤ 4) (rows : List (List Int)) (h8 : rows.length ≤ 8) (hrr : ∀ r ∈ rows, r.length = n ∧ ∀ x ∈ r, -1 ≤ x ∧ x ≤ 1) (RA : Option Addr) (M rc : Nat) (hM : M = rows.length) : ∀ (f : Nat) (head : List (List Int)) (sums : List Int) (HA SA : Option Addr) (N hc sc : Nat) (w : World),
    N = head.length → n = N + f → (∀ r ∈ head, r.length ≤ 1048576) → n = sums.length → (∀ x ∈ sums, 0 ≤ x ∧ x ≤ 1) → RdII w RA rows → RdII w HA head → RdI w SA sums →
      Calls Try.prog 206 #[.int .i64 (n : Int), .slice RA M rc, .slice HA N hc, .slice SA n sc] w fun e w' => ∃ v, e = .returned v ∧ InIII w.heap.size w'.heap.size w' v (sp25 n rows f head sums) ∧ Below w.heap.size w w' := by
  intro f
  induction f with
  | zero =>
    intro head sums HA SA N hc sc w hN hn hhr hsl hs01 hR hH hS
    obtain rfl : n = N := by omega
    exact l25Leaf n h1 h4 rows head sums RA HA SA M rc hc sc w hN hhr hsl hH hS
  | succ f ih =>
    intro head sums HA SA N hc sc w hN hn hhr hsl hs01 hR hH hS
    exact l25List_step n h1 h4 rows h8 hrr RA M rc hM f (by omega) ih head sums HA SA N hc sc w hN hn hhr hsl hs01 hR hH hS
theorem rowsTo_mem (n : Nat) : ∀ t, ∀ r ∈ rowsTo n t, r.length = n ∧ ∀ x ∈ r, -1 ≤ x ∧ x ≤ 1
  | 0, r, h => by simp [rowsTo] at h
  | t + 1, r, h => by
    rw [rowsTo, List.mem_append] at h
    rcases h with h | h
    · exact rowsTo_mem n t r h
    · split at h
      · simp at h; subst h; exact ⟨rowD_len _ _, rowD_mem _ _⟩
      · simp at h
theorem rowsTo_8 : ∀ n : Fin 5, (rowsTo n.1 (th n.1)).length ≤ 8 := by decide +kernel
def altL (x : Int) : List (List (List Int)) := if inB x 1 4 then spL x.toNat else []
theorem RdII.nil_ (w : World) (A : Option Addr) : RdII w A [] := ⟨[], ⟨rfl, fun h => absurd h (by decide)⟩, by simp⟩
theorem blk_rdI {w : World} {g n : Nat} (h : Blk w g 3 (List.replicate n (.int .i64 0))) : RdI w (some ⟨g, 0, none⟩) (List.replicate n 0) := by
  refine ⟨?_, fun x hx => ?_⟩
  · have := h.rd (n := n) (sz := 1) (by simp)
    simpa [cI] using this
  · have := List.eq_of_mem_replicate hx
    subst this; exact ⟨by decide, by decide⟩
theorem nb1 {W : World} {o ob : Obj} {E : TypeId} {xs : List Value} (h : Blk ((W.alloc o).alloc ob) (W.alloc o).heap.size E xs) : Blk ((W.alloc o).alloc ob) (W.heap.size + 1) E xs := by rwa [World.size_alloc] at h
set_option maxRecDepth 100000 in
set_option maxHeartbeats 4000000 in
theorem ListAlternating_s (x : Int) (w : World) :
    Calls Try.prog 193 #[.int .i64 x] w fun e w' => ∃ v, e = .returned v ∧ InIII w.heap.size w'.heap.size w' v (altL x) ∧ Below w.heap.size w w' := by
  cases hx : inB x 1 4
  · have hB0 := bl_alloc (Below.refl w.heap.size w) (.cells #[] 76)
    have ow := Lib.hid (InS.new_ 76 InII (lo := w.heap.size) (hi := w.heap.size + 1) (w := w) (Nat.le_refl _) (Nat.lt_succ_self _))
    have he := Lib.hid (show altL x = [] by rw [altL, hx]; rfl)
    go_enter Try.func193, Try.ntmps193
    go_wp2_with (go_at_call 128; refine (l01In_any _ _ _ _).mono ?_; rintro e wn ⟨rfl, rfl⟩)
    go_ret
    exact ⟨_, rfl, by rw [he.out, World.size_alloc]; exact ow.out, hB0⟩
  · have hx2 := inB_true.1 hx
    obtain ⟨n, rfl⟩ : ∃ n : Nat, x = n := ⟨x.toNat, by omega⟩
    have h1 : 1 ≤ n := by omega
    have h4 : n ≤ 4 := by omega
    have he := Lib.hid (show altL (n : Int) = sp25 n (rowsTo n (th n)) n [] (List.replicate n 0) by rw [altL, hx]; rfl)
    have hmk := run_make_row' (P := Try.prog) 24 3 (.int .i64 0) 8 Try.underlying24 info_int rfl .i64 .i64 n (by omega) (by omega)
    rw [made_list, List.toArray_replicate] at hmk
    have h8 := rowsTo_8 ⟨n, by omega⟩
    have h8' := Lib.hid (show (rowsTo n (th n)).length ≤ 8 from h8)
    have hrm := Lib.hid (rowsTo_mem n (th n))
    have hs0 := Lib.hid (show n = (List.replicate n (0 : Int)).length by simp)
    have hs1 := Lib.hid (show ∀ x ∈ List.replicate n (0 : Int), 0 ≤ x ∧ x ≤ 1 from fun x hx => by have := List.eq_of_mem_replicate hx; omega)
    have h0 := Lib.hid (show ∀ r ∈ ([] : List (List Int)), r.length ≤ 1048576 by simp)
    have hn0 : n = 0 + n := by omega
    have Hn0 := Lib.hid hn0
    have BM : ∀ W : World, Blk (W.alloc (.cells (Array.replicate n (.int .i64 0)) 3)) W.heap.size 3 (List.replicate n (.int .i64 0)) := fun W => by
      have := Blk.new W 3 (List.replicate n (.int .i64 0))
      rwa [List.toArray_replicate] at this
    have HBM := Lib.hid BM
    have CALL := Lib.hid (show ∀ (Wc : World) (A9 : Option Addr) (M c9 g10 g12 : Nat), M = (rowsTo n (th n)).length → RdII Wc A9 (rowsTo n (th n)) → Blk Wc g12 3 (List.replicate n (.int .i64 0)) → Calls Try.prog 206 #[.int .i64 (n : Int), .slice A9 M c9, .slice (some ⟨g10, 0, none⟩) 0 0, .slice (some ⟨g12, 0, none⟩) n n] Wc fun e w' => ∃ v, e = .returned v ∧ InIII Wc.heap.size w'.heap.size w' v (altL n) ∧ Below Wc.heap.size Wc w' from
      fun Wc A9 M c9 g10 g12 hM hR hS => by
        rw [he.out]
        exact l25List_any n h1 h4 _ h8 hrm.out A9 M c9 hM n [] (List.replicate n 0) _ _ 0 0 n Wc rfl hn0 h0.out hs0.out hs1.out hR (RdII.nil_ _ _) (blk_rdI hS))
    clear h8 hn0 BM
    go_enter Try.func193, Try.ntmps193
    go_wp2_with (go_at_call 128; refine (l01In_any _ _ _ _).mono ?_; rintro e wn ⟨rfl, rfl⟩)
    go_region_with (first
      | (go_at_call 207; (with_reducible refine (l25Rows_any n h1 h4 w.drew).mono ?_); rintro e wR ⟨v9, rfl, i9, hb9⟩; obtain ⟨⟨A9, c9, rfl⟩, _⟩ := id i9; have I9 := Lib.hid i9; have HB9 := Lib.hid (show Below w.heap.size w wR from bl_trans (bl_drew (Below.refl _ _)) hb9); have NB1 := nb1 (HBM.out (wR.alloc (.cells #[] 24))); have NB2 := (HBM.out wR).alloc (.cells #[] 24); have NB3 := HBM.out wR; clear i9 hb9)
      | (go_at_call 207; (with_reducible refine (l25Rows_any n h1 h4 (w.alloc (.cells #[] 24)).drew).mono ?_); rintro e wR ⟨v9, rfl, i9, hb9⟩; obtain ⟨⟨A9, c9, rfl⟩, _⟩ := id i9; have I9 := Lib.hid i9; have HB9 := Lib.hid (show Below w.heap.size w wR from bl_trans (by go_grown) hb9); have NB1 := nb1 (HBM.out (wR.alloc (.cells #[] 24))); have NB2 := (HBM.out wR).alloc (.cells #[] 24); have NB3 := HBM.out wR; clear i9 hb9)
      | (go_at_call 207; (with_reducible refine (l25Rows_any n h1 h4 (w.alloc (.cells (Array.replicate n (.int .i64 0)) 3)).drew).mono ?_); rintro e wR ⟨v9, rfl, i9, hb9⟩; obtain ⟨⟨A9, c9, rfl⟩, _⟩ := id i9; have I9 := Lib.hid i9; have HB9 := Lib.hid (show Below w.heap.size w wR from bl_trans (by go_grown) hb9); have NB1 := nb1 (HBM.out (wR.alloc (.cells #[] 24))); have NB2 := (HBM.out wR).alloc (.cells #[] 24); have NB3 := HBM.out wR; have NB4 := ((HBM.out w).drew.bel hb9).alloc (.cells #[] 24); clear i9 hb9)
      | (go_at_call 207; (with_reducible refine (l25Rows_any n h1 h4 ((w.alloc (.cells #[] 24)).alloc (.cells (Array.replicate n (.int .i64 0)) 3)).drew).mono ?_); rintro e wR ⟨v9, rfl, i9, hb9⟩; obtain ⟨⟨A9, c9, rfl⟩, _⟩ := id i9; have I9 := Lib.hid i9; have HB9 := Lib.hid (show Below w.heap.size w wR from bl_trans (by go_grown) hb9); have NB1 := nb1 (HBM.out (wR.alloc (.cells #[] 24))); have NB2 := (HBM.out wR).alloc (.cells #[] 24); have NB3 := HBM.out wR; have NB5 := (nb1 (HBM.out (w.alloc (.cells #[] 24)))).drew.bel hb9; clear i9 hb9)
      | (go_at_call 207; (with_reducible refine (l25Rows_any n h1 h4 ((w.alloc (.cells (Array.replicate n (.int .i64 0)) 3)).alloc (.cells #[] 24)).drew).mono ?_); rintro e wR ⟨v9, rfl, i9, hb9⟩; obtain ⟨⟨A9, c9, rfl⟩, _⟩ := id i9; have I9 := Lib.hid i9; have HB9 := Lib.hid (show Below w.heap.size w wR from bl_trans (by go_grown) hb9); have NB1 := nb1 (HBM.out (wR.alloc (.cells #[] 24))); have NB2 := (HBM.out wR).alloc (.cells #[] 24); have NB3 := HBM.out wR; have NB6 := ((HBM.out w).alloc (.cells #[] 24)).drew.bel hb9; clear i9 hb9)
      | (go_at_call 206; (with_reducible refine (CALL.out ((wR.alloc (.cells #[] 24)).alloc (.cells (Array.replicate n (.int .i64 0)) 3)) A9 _ c9 wR.heap.size (wR.heap.size + 1) rfl (I9.out.rd.below (bl_alloc (bl_alloc (Below.refl _ _) _) _)) NB1).mono ?_); rintro e wS ⟨v13, rfl, i13, hb13⟩; have hWc := (show Below w.heap.size w ((wR.alloc (.cells #[] 24)).alloc (.cells (Array.replicate n (.int .i64 0)) 3)) from bl_trans HB9.out (bl_alloc (bl_alloc (Below.refl _ _) _) _)); have I13 := Lib.hid i13; have HB13 := Lib.hid (bl_trans hWc hb13); have hs13 := hWc.size; clear i13 hb13)
      | (go_at_call 206; (with_reducible refine (CALL.out ((wR.alloc (.cells (Array.replicate n (.int .i64 0)) 3)).alloc (.cells #[] 24)) A9 _ c9 (wR.heap.size + 1) wR.heap.size rfl (I9.out.rd.below (bl_alloc (bl_alloc (Below.refl _ _) _) _)) NB2).mono ?_); rintro e wS ⟨v13, rfl, i13, hb13⟩; have hWc := (show Below w.heap.size w ((wR.alloc (.cells (Array.replicate n (.int .i64 0)) 3)).alloc (.cells #[] 24)) from bl_trans HB9.out (bl_alloc (bl_alloc (Below.refl _ _) _) _)); have I13 := Lib.hid i13; have HB13 := Lib.hid (bl_trans hWc hb13); have hs13 := hWc.size; clear i13 hb13)
      | (go_at_call 206; (with_reducible refine (CALL.out (wR.alloc (.cells (Array.replicate n (.int .i64 0)) 3)) A9 _ c9 _ wR.heap.size rfl (I9.out.rd.below (bl_alloc (Below.refl _ _) _)) NB3).mono ?_); rintro e wS ⟨v13, rfl, i13, hb13⟩; have hWc := (show Below w.heap.size w (wR.alloc (.cells (Array.replicate n (.int .i64 0)) 3)) from bl_trans HB9.out (bl_alloc (Below.refl _ _) _)); have I13 := Lib.hid i13; have HB13 := Lib.hid (bl_trans hWc hb13); have hs13 := hWc.size; clear i13 hb13)
      | (go_at_call 206; (with_reducible refine (CALL.out (wR.alloc (.cells #[] 24)) A9 _ c9 _ w.heap.size rfl (I9.out.rd.below (bl_alloc (Below.refl _ _) _)) NB4).mono ?_); rintro e wS ⟨v13, rfl, i13, hb13⟩; have hWc := (show Below w.heap.size w (wR.alloc (.cells #[] 24)) from bl_trans HB9.out (bl_alloc (Below.refl _ _) _)); have I13 := Lib.hid i13; have HB13 := Lib.hid (bl_trans hWc hb13); have hs13 := hWc.size; clear i13 hb13)
      | (go_at_call 206; (with_reducible refine (CALL.out wR A9 _ c9 w.heap.size (w.heap.size + 1) rfl (I9.out.rd.below (Below.refl _ _)) NB5).mono ?_); rintro e wS ⟨v13, rfl, i13, hb13⟩; have hWc := (show Below w.heap.size w wR from bl_trans HB9.out (Below.refl _ _)); have I13 := Lib.hid i13; have HB13 := Lib.hid (bl_trans hWc hb13); have hs13 := hWc.size; clear i13 hb13)
      | (go_at_call 206; (with_reducible refine (CALL.out wR A9 _ c9 (w.heap.size + 1) w.heap.size rfl (I9.out.rd.below (Below.refl _ _)) NB6).mono ?_); rintro e wS ⟨v13, rfl, i13, hb13⟩; have hWc := (show Below w.heap.size w wR from bl_trans HB9.out (Below.refl _ _)); have I13 := Lib.hid i13; have HB13 := Lib.hid (bl_trans hWc hb13); have hs13 := hWc.size; clear i13 hb13))
    all_goals (go_wp2_with fail; go_ret; exact ⟨_, rfl, InS.wide I13.out hs13 (Nat.le_refl _), HB13.out⟩)
end Go.Proofs.Ytdcjhfmkkcakhaa

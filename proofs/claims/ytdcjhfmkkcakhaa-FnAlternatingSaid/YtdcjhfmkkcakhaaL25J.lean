/-
  The variables of ListAlternating of the program, as its closure finds them, and what each of its operations makes of them. No statement is proved here.
-/
import Derived.Test.YtdcjhfmkkcakhaaL25T
namespace Go.Proofs.Ytdcjhfmkkcakhaa
open Go.ChangeShapes Go.WideShapes Go.ChangeAt Go.RowKit Go.Deep
set_option linter.unusedVariables false

theorem Blk.ne' {w : World} {b b' : Nat} {E E' : TypeId} {xs ys : List Value} (h : Blk w b E xs) (k : Blk w b' E' ys) (hne : E ≠ E') : b ≠ b' := by
  rintro rfl
  unfold Blk at h k
  rw [h] at k
  injection k with k
  injection k with k1 k2
  exact hne k2
/-! ### the plain closure -/
def in25 (n f k : Nat) (sum : Int) (flat cols : List Int) (x : Int) : List (List (List Int)) :=
  if inB (sum + x) 0 1 && inB ((cols[k % n]?).getD 0 + x) 0 1 then im25 n f (k + 1) (sum + x) (flat ++ [x]) (cols.set (k % n) ((cols[k % n]?).getD 0 + x)) else []
def hd25 (n k : Nat) (sum : Int) : Bool := decide (k > 0) && k % n == 0 && sum != 1
def sm25 (n k : Nat) (sum : Int) : Int := if decide (k > 0) && k % n == 0 then 0 else sum
theorem im25_zero (n k : Nat) (sum : Int) (flat cols : List Int) : im25 n 0 k sum flat cols = if hd25 n k sum then [] else if altB (chunk n flat) then [chunk n flat] else [] := rfl
theorem im25_succ (n f k : Nat) (sum : Int) (flat cols : List Int) : im25 n (f + 1) k sum flat cols = if hd25 n k sum then [] else [-1, 0, 1].flatMap (in25 n f k (sm25 n k sum) flat cols) := rfl
def to25 (n f k : Nat) (sum : Int) (flat cols : List Int) (j : Nat) : List (List (List Int)) := (([-1, 0, 1] : List Int).take j).flatMap (in25 n f k sum flat cols)
theorem to25_succ (n f k : Nat) (sum : Int) (flat cols : List Int) {j : Nat} (h : j < 3) : to25 n f k sum flat cols (j + 1) = to25 n f k sum flat cols j ++ in25 n f k sum flat cols ((j : Int) - 1) := by
  unfold to25
  rw [take_snoc_at (x := (j : Int) - 1) (by rcases j with _ | _ | _ | j <;> first | rfl | omega), List.flatMap_append]
  simp
theorem to25_three (n f k : Nat) (sum : Int) (flat cols : List Int) : to25 n f k sum flat cols 3 = [-1, 0, 1].flatMap (in25 n f k sum flat cols) := rfl
theorem to25_le (n f k : Nat) (sum : Int) (flat cols : List Int) : ∀ j, j ≤ 3 → (to25 n f k sum flat cols j).length ≤ (to25 n f k sum flat cols 3).length := by
  intro j hj
  rcases j with _ | _ | _ | _ | j
  · simp [to25]
  · rw [to25_succ _ _ _ _ _ _ (j := 2) (by decide), to25_succ _ _ _ _ _ _ (j := 1) (by decide)]; simp
  · rw [to25_succ _ _ _ _ _ _ (j := 2) (by decide)]; simp
  · exact Nat.le_refl _
  · omega
theorem chunk_len (n : Nat) (F : List Int) : (chunk n F).length = n := by simp [chunk]
theorem chunk_at {n i : Nat} (F : List Int) (h : i < n) : (chunk n F)[i]? = some ((F.drop (i * n)).take n) := by simp [chunk, h]
theorem chunk_row {n i : Nat} {F : List Int} (hF : F.length = n * n) (h : i < n) : ((F.drop (i * n)).take n).length = n := by
  rw [List.length_take, List.length_drop, hF]
  have := Nat.mul_le_mul_right n (show i + 1 ≤ n by omega)
  rw [Nat.succ_mul] at this
  omega
theorem row_set {n i j : Nat} {F : List Int} (hF : F.length = n * n) (hi : i < n) (hj : j < n) (x : Int) : ((F.set (i * n + j) x).drop (i * n)).take n = ((F.drop (i * n)).take n).set j x := by
  rw [List.drop_set, if_neg (by omega), Nat.add_sub_cancel_left, List.take_set]
theorem row_far {n i j k : Nat} {F : List Int} (hj : j < n) (hik : i ≠ k) (x : Int) : ((F.set (i * n + j) x).drop (k * n)).take n = (F.drop (k * n)).take n := by
  rcases Nat.lt_or_gt_of_ne hik with h | h
  · have := Nat.mul_le_mul_right n (show i + 1 ≤ k by omega)
    rw [Nat.succ_mul] at this
    rw [List.drop_set, if_pos (by omega)]
  · have := Nat.mul_le_mul_right n (show k + 1 ≤ i by omega)
    rw [Nat.succ_mul] at this
    rw [List.drop_set, if_neg (by omega), List.take_set_of_le (by omega)]
/-- the blocks' numbers -/
structure LP where
  n : Nat
  gn : Nat
  gm : Nat
  go : Nat
  gc : Nat
  gr : Nat
  bc : Nat
  lo : Nat
  lo2 : Nat
  Am : Option Addr
  cm : Nat
  gs : List Nat
structure LP.Ok (p : LP) : Prop where
  n1 : 1 ≤ p.n
  n4 : p.n ≤ 4
  gl : p.gs.length = p.n
  nd : ∀ i j g : Nat, p.gs[i]? = some g → p.gs[j]? = some g → i = j
  gg : ∀ g ∈ p.gs, p.lo ≤ g ∧ g < p.lo2 ∧ g ≠ p.gn ∧ g ≠ p.bc
  bn : p.bc ≠ p.gn
  r1 : p.lo ≤ p.gn ∧ p.gn < p.lo2
  r2 : p.lo ≤ p.gm ∧ p.gm < p.lo2
  r3 : p.lo ≤ p.go ∧ p.go < p.lo2
  r4 : p.lo ≤ p.gc ∧ p.gc < p.lo2
  r5 : p.lo ≤ p.gr ∧ p.gr < p.lo2
  r6 : p.lo ≤ p.bc ∧ p.bc < p.lo2
def slfL (p : LP) : Value := .func (.func 132) #[] #[.pointer (some ⟨p.gn, 0, none⟩), .pointer (some ⟨p.gm, 0, none⟩), .pointer (some ⟨p.go, 0, none⟩), .pointer (some ⟨p.gc, 0, none⟩), .pointer (some ⟨p.gr, 0, none⟩)]
def rowV (n g : Nat) : Value := .slice (some ⟨g, 0, none⟩) n n
structure LA (p : LP) (w0 w : World) (F cols : List Int) (out : List (List (List Int))) : Prop where
  bel : Below p.lo w0 w
  low : p.lo ≤ w0.heap.size
  l2 : p.lo2 ≤ w.heap.size
  nb : Blk w p.gn 3 [.int .i64 (p.n : Int)]
  mb : Blk w p.gm 76 [.slice p.Am p.n p.cm]
  mo : w.ownsRow p.lo 24 1 (.slice p.Am p.n p.cm) p.n (p.gs.map (rowV p.n))
  mr : ∀ (i g : Nat), p.gs[i]? = some g → Blk w g 3 (((F.drop (i * p.n)).take p.n).map cI)
  cb : Blk w p.gc 24 [.slice (some ⟨p.bc, 0, none⟩) p.n p.n]
  cc : Blk w p.bc 3 (cols.map cI)
  ob : ∃ A L c, Blk w p.go 78 [.slice A L c] ∧ InS2 76 InII p.lo p.lo2 w.heap.size w (.slice A L c) out ∧ ∀ k, (Value.slice A L c).ownBlock = some k → k ≠ p.gm
  rb : Blk w p.gr 145 [slfL p]
  fl : F.length = p.n * p.n
  fr : ∀ x ∈ F, -1 ≤ x ∧ x ≤ 1
  cl : cols.length = p.n
  cr : ∀ x ∈ cols, 0 ≤ x ∧ x ≤ 1
section
variable {p : LP} {w0 w w1 : World} {F cols : List Int} {out : List (List (List Int))}
theorem LA.sz (h : LA p w0 w F cols out) : p.lo ≤ w.heap.size := Nat.le_trans h.low h.bel.size
theorem LA.bel_ (h : LA p w0 w F cols out) (hb : Below w.heap.size w w1) : LA p w0 w1 F cols out := by
  obtain ⟨A, L, c, o1, o2, o3⟩ := h.ob
  exact ⟨h.bel.trans (hb.mono h.sz), h.low, Nat.le_trans h.l2 hb.size, h.nb.bel hb, h.mb.bel hb, ownsRow_bel h.mo hb, fun i g e => (h.mr i g e).bel hb, h.cb.bel hb, h.cc.bel hb, ⟨A, L, c, o1.bel hb, (o2.bel famR_II hb).wide hb.size, o3⟩, h.rb.bel hb, h.fl, h.fr, h.cl, h.cr⟩
theorem mem_set {l : List Int} {i : Nat} {x : Int} {P : Int → Prop} (h : ∀ y ∈ l, P y) (hx : P x) : ∀ y ∈ l.set i x, P y := fun y hy => by
  rcases List.mem_or_eq_of_mem_set hy with h1 | h1
  · exact h y h1
  · subst h1; exact hx
theorem ownsRow_set {w : World} {B : Nat} {E T : TypeId} {sz : Nat} {v : Value} {n g i : Nat} {xs ys : List Value} (h : w.ownsRow B E sz v n xs) (hb : Blk w g T ys) (hne : E ≠ T) (u : Value) : (w.setCell ⟨g, i, none⟩ u).ownsRow B E sz v n xs :=
  h.kept (w' := w.setCell ⟨g, i, none⟩ u) (row := some g) ⟨rfl, rfl, rfl, by simp, fun k hk hne => Below.heap_setCell w ⟨g, i, none⟩ u k (by intro e; exact hne (by rw [e]))⟩ (own_apart h hne (fun k hk => by injection hk with hk; subst hk; exact ⟨_, _, hb⟩))
theorem LA.setM (h : LA p w0 w F cols out) (K : p.Ok) {i j g : Nat} (hi : p.gs[i]? = some g) (hj : j < p.n) {x : Int} (hx : -1 ≤ x ∧ x ≤ 1) : LA p w0 (w.setCell ⟨g, j, none⟩ (.int .i64 x)) (F.set (i * p.n + j) x) cols out := by
  obtain ⟨A, L, c, o1, o2, o3⟩ := h.ob
  have hB := h.mr i g hi
  have hg := K.gg g (List.mem_of_getElem? hi)
  have hin : i < p.n := by have := (List.getElem?_eq_some_iff.1 hi).1; rw [K.gl] at this; exact this
  refine ⟨Below.setCell h.bel hg.1 _, h.low, by simpa using h.l2, h.nb.farN _ _ (Ne.symm hg.2.2.1) _, h.mb.farN _ _ (h.mb.ne' hB (by decide)) _, ownsRow_set h.mo hB (by decide) _, fun k g' hk => ?_, h.cb.farN _ _ (h.cb.ne' hB (by decide)) _, h.cc.farN _ _ (Ne.symm hg.2.2.2) _,
    ⟨A, L, c, o1.farN _ _ (o1.ne' hB (by decide)) _, by have := o2.set_ famR_II (i := j) hB (by decide) hg.2.1 (.int .i64 x); simpa using this, o3⟩, h.rb.farN _ _ (h.rb.ne' hB (by decide)) _, by simpa using h.fl, mem_set h.fr hx, h.cl, h.cr⟩
  by_cases e : i = k
  · subst e
    rw [hi] at hk
    injection hk with hk
    subst hk
    rw [row_set h.fl hin hj, List.map_set]
    exact hB.set_ j (.int .i64 x)
  · rw [row_far hj e]
    exact (h.mr k g' hk).farN _ _ (fun e2 => e (K.nd i k g hi (by rw [← e2]; exact hk))) _
theorem LA.setC (h : LA p w0 w F cols out) (K : p.Ok) (j : Nat) {x : Int} (hx : 0 ≤ x ∧ x ≤ 1) : LA p w0 (w.setCell ⟨p.bc, j, none⟩ (.int .i64 x)) F (cols.set j x) out := by
  obtain ⟨A, L, c, o1, o2, o3⟩ := h.ob
  have hB := h.cc
  refine ⟨Below.setCell h.bel K.r6.1 _, h.low, by simpa using h.l2, h.nb.farN _ _ (Ne.symm K.bn) _, h.mb.farN _ _ (h.mb.ne' hB (by decide)) _, ownsRow_set h.mo hB (by decide) _, fun k g' hk => (h.mr k g' hk).farN _ _ (K.gg g' (List.mem_of_getElem? hk)).2.2.2 _, h.cb.farN _ _ (h.cb.ne' hB (by decide)) _, by rw [List.map_set]; exact hB.set_ j (.int .i64 x),
    ⟨A, L, c, o1.farN _ _ (o1.ne' hB (by decide)) _, by have := o2.set_ famR_II (i := j) hB (by decide) K.r6.2 (.int .i64 x); simpa using this, o3⟩, h.rb.farN _ _ (h.rb.ne' hB (by decide)) _, h.fl, h.fr, by simpa using h.cl, mem_set h.cr hx⟩
theorem LA.rdII (h : LA p w0 w F cols out) (K : p.Ok) : RdII w p.Am (chunk p.n F) := by
  refine ⟨p.gs.map (rowV p.n), by rw [chunk_len]; exact Rd.of_own h.mo, fun i l hl => ?_⟩
  have hi : i < p.n := by have := (List.getElem?_eq_some_iff.1 hl).1; rw [chunk_len] at this; exact this
  rw [chunk_at F hi] at hl
  injection hl with hl
  have hg : p.gs[i]? = some (p.gs[i]'(by rw [K.gl]; exact hi)) := List.getElem?_eq_getElem _
  have hB := h.mr i _ hg
  rw [hl] at hB
  have hlen : l.length = p.n := by rw [← hl]; exact chunk_row h.fl hi
  refine ⟨_, p.n, by rw [List.getElem?_map, hg, hlen]; rfl, ?_, fun x hx => ?_⟩
  · exact hB.rd (by simp)
  · rw [← hl] at hx
    have := h.fr x (List.mem_of_mem_drop (List.mem_of_mem_take hx))
    exact ⟨by omega, by omega⟩
theorem LA.row (h : LA p w0 w F cols out) (K : p.Ok) {i g : Nat} (hi : p.gs[i]? = some g) {b off : Nat} (hA : p.Am = some ⟨b, off, none⟩) : w.cell? ⟨b, off + i, none⟩ = some (.slice (some ⟨g, 0, none⟩) p.n p.n) := by
  have hr := Rd.of_own h.mo
  obtain ⟨b', off', e, _, hc⟩ := hr.2 K.n1
  rw [hA] at e
  injection e with e
  injection e with e1 e2
  subst e1; subst e2
  exact hc i _ (by rw [List.getElem?_map, hi]; rfl)
theorem LA.spine (h : LA p w0 w F cols out) (K : p.Ok) : ∃ b off, p.Am = some ⟨b, off, none⟩ := by
  obtain ⟨b', off', e, _, hc⟩ := (Rd.of_own h.mo).2 K.n1
  exact ⟨b', off', e⟩
theorem LA.old (h : LA p w0 w F cols out) {i j g : Nat} (hin : i < p.n) (hi : p.gs[i]? = some g) (hj : j < p.n) : (∃ y : Int, w.cell? ⟨g, j, none⟩ = some (.int .i64 y)) ∧ w.frozen? ⟨g, j, none⟩ = false := by
  have hB := h.mr i g hi
  refine ⟨?_, hB.frozen j⟩
  have hl := chunk_row h.fl hin
  rw [hB.cell j, List.getElem?_map, List.getElem?_eq_getElem (by rw [hl]; exact hj)]
  exact ⟨_, rfl⟩
theorem LA.col (h : LA p w0 w F cols out) {j : Nat} (hj : j < p.n) : ∃ y : Int, cols[j]? = some y ∧ 0 ≤ y ∧ y ≤ 1 ∧ w.cell? ⟨p.bc, j, none⟩ = some (.int .i64 y) ∧ w.frozen? ⟨p.bc, j, none⟩ = false := by
  have hj2 : j < cols.length := by rw [h.cl]; exact hj
  have hy := h.cr _ (List.getElem_mem hj2)
  exact ⟨cols[j], List.getElem?_eq_getElem hj2, hy.1, hy.2, by rw [h.cc.cell j, List.getElem?_map, List.getElem?_eq_getElem hj2]; rfl, h.cc.frozen j⟩
/-- the list of the matrices so far grows by one, and its variable is stored anew -/
theorem LA.app (h : LA p w0 w F cols out) (K : p.Ok) {A A' : Option Addr} {L L' c c' : Nat} {l : List (List Int)} (o1 : Blk w p.go 78 [.slice A L c]) (o3 : ∀ k, (Value.slice A L c).ownBlock = some k → k ≠ p.gm) (o2 : InS2 76 InII p.lo p.lo2 w.heap.size w (.slice A L c) out)
    (n2 : InS2 76 InII p.lo p.lo2 w1.heap.size w1 (.slice A' L' c') (out ++ [l])) (hg : w.grownBy w1 (Value.slice A L c).ownBlock) (hv : (Value.slice A' L' c').ownBlock = (Value.slice A L c).ownBlock ∨ ∀ k, (Value.slice A' L' c').ownBlock = some k → w.heap.size ≤ k) :
    Blk w1 p.go 78 [.slice A L c] ∧ Blk w1 p.gm 76 [.slice p.Am p.n p.cm] ∧ LA p w0 (w1.setCell ⟨p.go, 0, none⟩ (.slice A' L' c')) F cols (out ++ [l]) := by
  obtain ⟨_, _, vs, ow, _⟩ := id o2
  have ht := own_typ ow
  have hlo : ∀ k, (Value.slice A L c).ownBlock = some k → p.lo ≤ k := fun k hk => (ow.lt k hk).1
  have k1 := h.nb.keepT hg ht (by decide)
  have k2 : Blk w1 p.gm 76 [.slice p.Am p.n p.cm] := (hg.block _ h.mb.lt (fun e => o3 _ e.symm rfl)).trans h.mb
  have k3 := h.mo.kept hg (own_apart h.mo (by decide) ht)
  have k4 := fun i g e => (h.mr i g e).keepT hg ht (by decide)
  have k5 := h.cb.keepT hg ht (by decide)
  have k6 := h.cc.keepT hg ht (by decide)
  have k7 := o1.keepT hg ht (by decide)
  have k8 := h.rb.keepT hg ht (by decide)
  have hb := h.bel.grown hg h.sz hlo
  have n3 := n2.set_ famR_II (i := 0) k7 (by decide) K.r3.2 (.slice A' L' c')
  refine ⟨k7, k2, Below.setCell hb (p := ⟨p.go, 0, none⟩) K.r3.1 _, h.low, by simpa using Nat.le_trans h.l2 hg.size, k1.farN _ _ (k1.ne' k7 (by decide)) _, k2.farN _ _ (k2.ne' k7 (by decide)) _, ownsRow_set k3 k7 (by decide) _, fun i g e => (k4 i g e).farN _ _ ((k4 i g e).ne' k7 (by decide)) _, k5.farN _ _ (k5.ne' k7 (by decide)) _, k6.farN _ _ (k6.ne' k7 (by decide)) _,
    ⟨A', L', c', k7.set_ 0 _, by simpa using n3, fun k hk => ?_⟩, k8.farN _ _ (k8.ne' k7 (by decide)) _, h.fl, h.fr, h.cl, h.cr⟩
  rcases hv with hv | hv
  · rw [hv] at hk; exact o3 k hk
  · have := hv k hk
    have := h.mb.lt
    omega
end
end Go.Proofs.Ytdcjhfmkkcakhaa

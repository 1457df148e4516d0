/-
  Slices of slices of cells whose members lie in ranges that do not meet, as a list of items; an append of one member, a shift by copy; no statement is proved here; no condition.
-/
import Derived.Test.YtdcjhfmkkcakhaaRows2
import Derived.Test.YtdcjhfmkkcakhaaSeg
namespace Go.Proofs.Ytdcjhfmkkcakhaa
open Go.ChangeShapes Go.WideShapes Go.ChangeAt Go.RowKit Go.Deep
set_option linter.unusedVariables false

structure It (α : Type) where
  u : Value
  l : α
  a : Nat
  b : Nat
section
variable {α : Type}
def It.apart (x y : It α) : Prop := x.b ≤ y.a ∨ y.b ≤ x.a
theorem It.apart_symm {x y : It α} (h : It.apart x y) : It.apart y x := h.elim .inr .inl
def PartsL (I : Nat → Nat → World → Value → α → Prop) (lo hi : Nat) (w : World) (its : List (It α)) (out : Option Nat) : Prop :=
  (∀ x ∈ its, I x.a x.b w x.u x.l ∧ lo ≤ x.a ∧ x.b ≤ hi ∧ ∀ k, out = some k → k < x.a ∨ x.b ≤ k) ∧ its.Pairwise It.apart
def InL (T : TypeId) (I : Nat → Nat → World → Value → α → Prop) (lo hi : Nat) (w : World) (v : Value) (its : List (It α)) : Prop :=
  (∃ A c, v = .slice A its.length c) ∧ (∀ k, v.ownBlock = some k → k < hi) ∧ w.ownsRow lo T 1 v its.length (its.map It.u) ∧ PartsL I lo hi w its v.ownBlock
variable {I : Nat → Nat → World → Value → α → Prop} {T : TypeId} {lo hi : Nat} {w w' : World} {v : Value} {its : List (It α)} {out : Option Nat}
theorem PartsL.loc (F : FamR I) (h : PartsL I lo hi w its out) (hs : Same lo hi w w') : PartsL I lo hi w' its out :=
  ⟨fun x hx => by obtain ⟨a, b, c, d⟩ := h.1 x hx; exact ⟨F.loc a (hs.mono b c), b, c, d⟩, h.2⟩
theorem PartsL.parts (h : PartsL I lo hi w its out) : Parts I lo hi w (its.map It.u) (its.map It.l) out := by
  refine ⟨by simp, fun i => ((its[i]?).map fun x => (x.a, x.b)).getD (0, 0), fun i l hl => ?_, fun i j hij hj => ?_⟩
  · rw [List.getElem?_map] at hl
    obtain ⟨x, hx, rfl⟩ := Option.map_eq_some_iff.1 hl
    obtain ⟨a, b, c, d⟩ := h.1 x (List.mem_of_getElem? hx)
    refine ⟨x.u, by rw [List.getElem?_map, hx]; rfl, ?_⟩
    dsimp only
    rw [hx]
    exact ⟨a, b, c, d⟩
  · rw [List.length_map] at hj
    have := h.2
    rw [List.pairwise_iff_getElem] at this
    have := this i j (by omega) hj hij
    dsimp only
    rw [List.getElem?_eq_getElem (by omega), List.getElem?_eq_getElem hj]
    exact this
theorem InL.inS (h : InL T I lo hi w v its) : InS T I lo hi w v (its.map It.l) := by
  obtain ⟨h1, h2, h3, h4⟩ := h
  exact ⟨by simpa using h1, h2, _, by simpa using h3, h4.parts⟩
theorem InL.bel (F : FamR I) (h : InL T I lo hi w v its) (hb : Below w.heap.size w w') : InL T I lo hi w' v its :=
  ⟨h.1, h.2.1, ownsRow_bel h.2.2.1 hb, h.2.2.2.loc F (.of_bel hb)⟩
theorem InL.new_ (T : TypeId) (I : Nat → Nat → World → Value → α → Prop) {lo hi : Nat} {w : World} (hB : lo ≤ w.heap.size) (hh : w.heap.size < hi) : InL T I lo hi (w.alloc (.cells #[] T)) (.slice (some ⟨w.heap.size, 0, none⟩) 0 0) [] :=
  ⟨⟨_, _, rfl⟩, by simp [Value.ownBlock]; omega, World.ownsRow_made w #[] 0 hB (by simp [maxLen]) (by simp), by simp [PartsL]⟩
theorem InL.wide (h : InL T I lo hi w v its) {lo' hi' : Nat} (h1 : lo' ≤ lo) (h2 : hi ≤ hi') : InL T I lo' hi' w v its :=
  ⟨h.1, fun k hk => by have := h.2.1 k hk; omega, ownsRow_mono h.2.2.1 h1, fun x hx => by obtain ⟨a, b, c, d⟩ := h.2.2.2.1 x hx; exact ⟨a, by omega, by omega, d⟩, h.2.2.2.2⟩
theorem InL.len {A : Option Addr} {n c : Nat} (h : InL T I lo hi w (.slice A n c) its) : n = its.length := by obtain ⟨⟨A', c', e⟩, _⟩ := h; injection e
theorem pw_ins {R : It α → It α → Prop} (hsy : ∀ {x y}, R x y → R y x) {z : It α} {its : List (It α)} (p : Nat) (h : its.Pairwise R) (hz : ∀ x ∈ its, R x z) : (its.take p ++ z :: its.drop p).Pairwise R := by
  rw [← List.take_append_drop p its, List.pairwise_append] at h
  rw [List.pairwise_append, List.pairwise_cons]
  refine ⟨h.1, ⟨fun x hx => hsy (hz x (List.mem_of_mem_drop hx)), h.2.1⟩, fun x hx y hy => ?_⟩
  rcases List.mem_cons.1 hy with e | hy
  · rw [e]; exact hz x (List.mem_of_mem_take hx)
  · exact h.2.2 x hx y hy
theorem mem_ins {z x : It α} {its : List (It α)} (p : Nat) (h : x ∈ its.take p ++ z :: its.drop p) : x = z ∨ x ∈ its := by
  rcases List.mem_append.1 h with h | h
  · exact .inr (List.mem_of_mem_take h)
  · rcases List.mem_cons.1 h with h | h
    · exact .inl h
    · exact .inr (List.mem_of_mem_drop h)
/-- one member more, put at p; its range lies behind all others -/
theorem InL.ins (F : FamR I) {w1 : World} {v' u : Value} {l : α} {a b p : Nat} (h : InL T I lo hi w v its) (hI : I a b w u l) (hia : hi ≤ a) (hla : lo ≤ a) (hab : a ≤ b) (hbw : b ≤ w.heap.size)
    (hf : ∃ A c, v' = .slice A (its.length + 1) c) (g1 : w1.ownsRow lo T 1 v' (its.length + 1) ((its.take p ++ ⟨u, l, a, b⟩ :: its.drop p).map It.u)) (hg : ∀ k, k < w.heap.size → v.ownBlock ≠ some k → v'.ownBlock ≠ some k → w1.heap[k]? = w.heap[k]?) (hz : w.heap.size ≤ w1.heap.size)
    (g3 : v'.ownBlock = v.ownBlock ∨ ∀ k, v'.ownBlock = some k → w.heap.size ≤ k) : InL T I lo w1.heap.size w1 v' (its.take p ++ ⟨u, l, a, b⟩ :: its.drop p) := by
  obtain ⟨h1, h2, h3, h4⟩ := h
  have hlen : (its.take p ++ (⟨u, l, a, b⟩ : It α) :: its.drop p).length = its.length + 1 := by
    rw [List.length_append, List.length_cons, List.length_take, List.length_drop]; omega
  have hno : ∀ k, v.ownBlock = some k → k < a ∨ b ≤ k := fun k hk => by have := h2 k hk; omega
  have hall : ∀ x ∈ its.take p ++ (⟨u, l, a, b⟩ : It α) :: its.drop p, I x.a x.b w x.u x.l ∧ lo ≤ x.a ∧ x.b ≤ w.heap.size ∧ ∀ k, v.ownBlock = some k → k < x.a ∨ x.b ≤ k := fun x hx => by
    rcases mem_ins p hx with e | hx
    · rw [e]; exact ⟨hI, hla, hbw, hno⟩
    · obtain ⟨q1, q2, q3, q4⟩ := h4.1 x hx
      exact ⟨q1, q2, by omega, q4⟩
  refine ⟨by rw [hlen]; exact hf, fun k hk => (g1.lt k hk).2, by rw [hlen]; exact g1, fun x hx => ?_, pw_ins It.apart_symm p h4.2 fun x hx => by
    obtain ⟨_, _, q, _⟩ := h4.1 x hx
    exact .inl (by show x.b ≤ a; omega)⟩
  obtain ⟨q1, q2, q3, q4⟩ := hall x hx
  have hv' : ∀ k, v'.ownBlock = some k → k < x.a ∨ x.b ≤ k := fun k hk => by
    rcases g3 with g3 | g3
    · rw [g3] at hk; exact q4 k hk
    · have := g3 k hk; omega
  refine ⟨F.loc q1 fun k k1 k2 k3 => hg k k3 (fun e => by have := q4 k e; omega) (fun e => by have := hv' k e; omega), q2, by omega, hv'⟩
end
theorem famR_C : FamR InC where
  loc h hs := ⟨⟨h.1.1, ownsRow_loc h.1.2.1 (fun k hk hlt => hs k ((h.1.2.1.lt k hk).1) (h.2 k hk) hlt), h.1.2.2⟩, h.2⟩
  one h := by obtain ⟨⟨A, c, rfl⟩, _⟩ := h.1; rfl
theorem fam_C : Fam 28 (OwC 0) where
  bel h hb := h.bel hb
  far h hg ht := ⟨h.1, h.2.1.kept hg (own_apart h.2.1 (by decide) ht), h.2.2⟩
  one h := by obtain ⟨⟨A, c, rfl⟩, _⟩ := h; rfl
def RdCC := RdS RdC List.length
def OwCC := OwS 28 (OwC 0)
def InCC := InS 28 InC
theorem RdCC.at_ {w : World} {A : Option Addr} {ll : List (List (Int × Int))} (h : RdCC w A ll) {k : Nat} (hk : k < ll.length) :
    ∃ b off l A' c, A = some ⟨b, off, none⟩ ∧ b < w.heap.size ∧ ll[k]? = some l ∧ ll.drop k = l :: ll.drop (k + 1) ∧ RdC w A' l ∧ w.cell? ⟨b, off + k, none⟩ = some (.slice A' l.length c) := RdS.at_ h hk
theorem RdCC.below {w w' : World} {A : Option Addr} {ll : List (List (Int × Int))} (h : RdCC w A ll) (hb : Below w.heap.size w w') : RdCC w' A ll := RdS.below (fun h => h.below hb) h hb
theorem OwCC.bel {B : Nat} {w w' : World} {v : Value} {ll : List (List (Int × Int))} (h : OwCC B w v ll) (hb : Below w.heap.size w w') : OwCC B w' v ll := OwS.bel fam_C h hb
theorem OwCC.rd {B : Nat} {w : World} {A : Option Addr} {n c : Nat} {ll : List (List (Int × Int))} (h : OwCC B w (.slice A n c) ll) : RdCC w A ll :=
  OwS.rd (fun h => by obtain ⟨A, c, rfl⟩ := h.1; exact ⟨A, c, rfl, h.rd⟩) h
theorem OwCC.form {B : Nat} {w : World} {v : Value} {ll : List (List (Int × Int))} (h : OwCC B w v ll) : ∃ A c, v = .slice A ll.length c := h.1
theorem InCC.bel {lo hi : Nat} {w w' : World} {v : Value} {ll : List (List (Int × Int))} (h : InCC lo hi w v ll) (hb : Below w.heap.size w w') : InCC lo hi w' v ll := InS.bel famR_C h hb
theorem InCC.rd {lo hi : Nat} {w : World} {A : Option Addr} {n c : Nat} {ll : List (List (Int × Int))} (h : InCC lo hi w (.slice A n c) ll) : RdCC w A ll :=
  InS.rd (fun h => by obtain ⟨A, c, rfl⟩ := h.1.1; exact ⟨A, c, rfl, h.rd⟩) h
theorem InCC.loc {lo hi : Nat} {w w' : World} {v : Value} {ll : List (List (Int × Int))} (h : InCC lo hi w v ll) (hb : Same lo hi w w') : InCC lo hi w' v ll := InS.loc famR_C h hb
theorem InCC.wide {lo hi lo' hi' : Nat} {w : World} {v : Value} {ll : List (List (Int × Int))} (h : InCC lo hi w v ll) (h1 : lo' ≤ lo) (h2 : hi ≤ hi') : InCC lo' hi' w v ll := InS.wide h h1 h2
theorem InCC.form {lo hi : Nat} {w : World} {v : Value} {ll : List (List (Int × Int))} (h : InCC lo hi w v ll) : ∃ A c, v = .slice A ll.length c := h.1
theorem InCC.own {lo hi : Nat} {w : World} {v : Value} {ll : List (List (Int × Int))} (h : InCC lo hi w v ll) : OwCC lo w v ll := by
  obtain ⟨a, b, vs, c, d, r, e, f⟩ := h
  refine ⟨a, vs, c, fun i l hl => ?_⟩
  obtain ⟨u, hu, hI, _⟩ := e i l hl
  exact ⟨u, hu, hI.1.mono (Nat.zero_le _)⟩
theorem OwC.inn {lo : Nat} {w : World} {v : Value} {l : List (Int × Int)} (h : OwC lo w v l) : InC lo w.heap.size w v l := ⟨h, fun k hk => (h.2.1.lt k hk).2⟩
theorem info_cells : (Try.prog.info? 28).map (fun i => (i.zero, i.size, i.bytes)) = some (some (.slice none 0 0), 1, 24) := by kernel_rfl
theorem info_szCS : (Try.prog.info? 28).map (·.size) = some 1 := by kernel_rfl
/-- a row that is not empty is one block -/
theorem row_blk {w : World} {B : Nat} {T : TypeId} {v : Value} {n : Nat} {xs : List Value} (h : w.ownsRow B T 1 v n xs) (h0 : 0 < n) :
    ∃ g cap rest, v = .slice (some ⟨g, 0, none⟩) n cap ∧ B ≤ g ∧ n ≤ cap ∧ cap ≤ maxLen ∧ (xs ++ rest).length = cap ∧ Blk w g T (xs ++ rest) := by
  rcases h.2 with ⟨_, h1⟩ | ⟨g, cap, cur, hv, hb, hg, hn, hm, hs, ht⟩
  · omega
  · have e : xs ++ cur.toList.drop (n * 1) = cur.toList := by rw [← ht]; exact List.take_append_drop _ _
    refine ⟨g, cap, cur.toList.drop (n * 1), hv, hb, hn, hm, ?_, ?_⟩
    · rw [e]; simpa using hs
    · rw [e]; exact hg
theorem blk_row {w : World} {B g cap : Nat} {T : TypeId} {xs rest : List Value} (h : Blk w g T (xs ++ rest)) (hB : B ≤ g) (hn : xs.length ≤ cap) (hm : cap ≤ maxLen) (hs : (xs ++ rest).length = cap) : w.ownsRow B T 1 (.slice (some ⟨g, 0, none⟩) xs.length cap) xs.length xs :=
  ⟨by simp, .inr ⟨g, cap, _, rfl, hB, h, hn, hm, by simpa using hs, by simp⟩⟩
theorem wpList_apZ {wr : World} {ops : Array Oper} {rest : List Oper} {o : Oper} {a : Act} {Q : Exit → Act → World → Prop} (hgd : o.guard = none) (s x : Operand) (ho : o.op = .call { callee := .builtin .append, args := #[s, x], argTypes := #[94, 94] })
    (lo : Nat) (v : Value) (n : Nat) (us : List Value) (u : Value) (hu : u.oneCell' = true) (hs : a.eval s = v) (hx : a.eval x = .slice (some ⟨wr.heap.size, 0, none⟩) 1 1) (hown : wr.ownsRow lo 28 1 v n us) (hB : lo ≤ wr.heap.size) (hn : n ≤ 1048576)
    (h : ∀ g cap rr w1, lo ≤ g → n + 1 ≤ cap → cap ≤ maxLen → (us ++ [u] ++ rr).length = cap → Blk w1 g 28 (us ++ [u] ++ rr) → wr.grownBy w1 v.ownBlock → (v.ownBlock = some g ∨ wr.heap.size ≤ g) → (∀ w, Below lo w wr → Below lo w w1) → wpList Try.prog ops Q rest (a.put o.dst (.slice (some ⟨g, 0, none⟩) (n + 1) cap)) w1) :
    wpList Try.prog ops Q (o :: rest) a (wr.alloc (.cells #[u] 28)) := by
  have hal : Below wr.heap.size wr (wr.alloc (.cells #[u] 28)) := Below.alloc (Below.refl _ _) (Nat.le_refl _) _
  refine append_at (P := Try.prog) hgd s x 94 ho lo 28 (.slice none 0 0) 1 24 Try.underlying94 (by kernel_rfl) rfl (by decide) (by decide) v n us [u] hs hx hown rfl (by intro y hy; simp at hy; subst hy; exact hu) hn hB (fun v' w1 g1 g2 g3 => ?_)
  have g2' := grown_bel hal g2
  obtain ⟨g, cap, rr, rfl, q1, q2, q3, q4, q5⟩ := row_blk g1 (by omega)
  refine h g cap rr w1 q1 q2 q3 q4 q5 g2' ?_ (fun w hb => below_grown hown hB hb g2)
  rcases g3 with g3 | g3
  · exact .inl g3.symm
  · refine .inr ?_
    simp only [Value.ownBlock] at g3
    injection g3 with g3
    omega
theorem InL.put {α : Type} {I : Nat → Nat → World → Value → α → Prop} {T : TypeId} {lo hi : Nat} {w w1 wF : World} {v : Value} {its : List (It α)} (F : FamR I) {g cap p a b : Nat} {rr : List Value} {u z : Value} {l : α} (h : InL T I lo hi w v its) (hI : I a b w u l) (hia : hi ≤ a) (hla : lo ≤ a) (hab : a ≤ b) (hbw : b ≤ w.heap.size)
    (hgB : lo ≤ g) (hcl : its.length + 1 ≤ cap) (hcm : cap ≤ maxLen) (hsz : (its.map It.u ++ [z] ++ rr).length = cap) (hgr : w.grownBy w1 v.ownBlock) (hat : v.ownBlock = some g ∨ w.heap.size ≤ g)
    (hblk : Blk wF g T ((its.map It.u).take p ++ u :: (its.map It.u).drop p ++ rr)) (hfar : ∀ k, k ≠ g → wF.heap[k]? = w1.heap[k]?) (hz : w1.heap.size ≤ wF.heap.size) :
    InL T I lo wF.heap.size wF (.slice (some ⟨g, 0, none⟩) (its.length + 1) cap) (its.take p ++ ⟨u, l, a, b⟩ :: its.drop p) := by
  have hm : (its.map It.u).take p ++ u :: (its.map It.u).drop p = (its.take p ++ (⟨u, l, a, b⟩ : It α) :: its.drop p).map It.u := by simp
  have hl : ((its.take p ++ (⟨u, l, a, b⟩ : It α) :: its.drop p).map It.u).length = its.length + 1 := by
    rw [List.length_map, List.length_append, List.length_cons, List.length_take, List.length_drop]; omega
  rw [hm] at hblk
  have hrow := blk_row hblk hgB (by rw [hl]; exact hcl) hcm (by rw [List.length_append, hl, ← hsz]; simp; omega)
  rw [hl] at hrow
  refine h.ins F hI hia hla hab hbw ⟨_, _, rfl⟩ hrow (fun k hk h1 h2 => ?_) (Nat.le_trans hgr.size hz) ?_
  · have hkg : k ≠ g := fun e => h2 (by rw [e]; rfl)
    rw [hfar k hkg]
    exact hgr.block k hk (fun e => h1 e.symm)
  · rcases hat with e | e
    · exact .inl (by rw [e]; rfl)
    · refine .inr fun k hk => ?_
      have : g = k := by simpa [Value.ownBlock] using hk
      omega
/-- the part of a row from p on, copied one place up -/
theorem copy_up {w : World} {g : Nat} {us : List Value} {z : Value} {rest : List Value} (h : Blk w g 28 (us ++ [z] ++ rest)) (h1 : ∀ v ∈ us, v.oneCell' = true) {p dLen sLen od os : Nat} (hp : p < us.length) (ty : TypeId) (dCap sCap : Nat)
    (hd : dLen = us.length - p) (hs : sLen = us.length + 1 - p) (hod : od = p + 1) (hos : os = p) :
    (Builtin.copy_ #[94, 94] ty #[.slice (some ⟨g, od, none⟩) dLen dCap, .slice (some ⟨g, os, none⟩) sLen sCap]).run Try.prog w = .ok (goInt (Nat.min sLen dLen)) (w.setCells g od (us.drop p)) := by
  subst hd; subst hs; subst hod; subst hos
  have hl : (us.drop os).length = us.length - os := List.length_drop
  have hmn : Nat.min (us.length + 1 - os) (us.length - os) = us.length - os := Nat.min_eq_right (by omega)
  refine run_copy_sz (P := Try.prog) w 94 94 ty 28 1 g _ _ _ ⟨g, os, none⟩ _ _ _ Try.underlying94 info_szCS ?_ ?_ ?_ ?_ (fun v hv => h1 v (List.mem_of_mem_drop hv))
  · rw [hl, hmn, Nat.mul_one]
  · intro j v hj
    have hj2 : j < us.length - os := by rw [← hl]; exact (List.getElem?_eq_some_iff.1 hj).1
    rw [Addr.add_lit, h.cell, List.append_assoc, List.getElem?_append_left (by omega), ← List.getElem?_drop]
    exact hj
  · intro j hj
    rw [hl] at hj
    rw [h.cell, List.getElem?_append_left (by simp; omega), List.getElem?_eq_getElem (by simp; omega)]; rfl
  · intro j hj
    exact h.frozen _
theorem shift_fin {w : World} {g : Nat} {T : TypeId} {us : List Value} {z u : Value} {rest : List Value} (h : Blk w g T (us ++ [z] ++ rest)) {p : Nat} (hp : p < us.length) :
    (∃ y, (w.setCells g (p + 1) (us.drop p)).cell? ⟨g, p, none⟩ = some y) ∧ (w.setCells g (p + 1) (us.drop p)).frozen? ⟨g, p, none⟩ = false ∧
    Blk ((w.setCells g (p + 1) (us.drop p)).setCell ⟨g, p, none⟩ u) g T (us.take p ++ u :: us.drop p ++ rest) ∧ (∀ k, k ≠ g → ((w.setCells g (p + 1) (us.drop p)).setCell ⟨g, p, none⟩ u).heap[k]? = w.heap[k]?) ∧
    w.heap.size ≤ ((w.setCells g (p + 1) (us.drop p)).setCell ⟨g, p, none⟩ u).heap.size := by
  have hl : (us.drop p).length = us.length - p := List.length_drop
  have hb := h.seg (us.drop p) (p + 1)
  rw [setSeg_eq _ _ _ (by simp; omega)] at hb
  have e1 : (us ++ [z] ++ rest).take (p + 1) = us.take (p + 1) := by
    rw [List.append_assoc, List.take_append_of_le_length (by omega)]
  have e2 : (us ++ [z] ++ rest).drop (p + 1 + (us.drop p).length) = rest := by
    rw [hl, show p + 1 + (us.length - p) = (us ++ [z]).length by simp; omega, List.drop_left]
  rw [e1, e2] at hb
  have hln : p < (us.take (p + 1) ++ us.drop p ++ rest).length := by simp; omega
  refine ⟨⟨_, (hb.cell p).trans (List.getElem?_eq_getElem hln)⟩, hb.frozen p, ?_, fun k hk => ?_, ?_⟩
  · have := hb.set_ p u
    rw [List.set_append_left _ _ (by simp; omega), shift_set' us u hp] at this
    exact this
  · exact (Below.heap_setCell _ ⟨g, p, none⟩ u k hk).trans (setCells_far _ _ _ _ hk)
  · have := (setCells_same (g := g) (us.drop p) w (p + 1)).2.2.2
    have h2 := (bl_set (w := w.setCells g (p + 1) (us.drop p)) (Below.refl _ _) (p := ⟨w.heap.size + g, p, none⟩) (by rw [this]; show _ ≤ w.heap.size + g; omega) u).size
    simp [World.setCell] <;> omega
theorem end_fin {w : World} {g : Nat} {T : TypeId} {us : List Value} {z u : Value} {rest : List Value} (h : Blk w g T (us ++ [z] ++ rest)) {p : Nat} (hp : p = us.length) :
    (∃ y, w.cell? ⟨g, p, none⟩ = some y) ∧ w.frozen? ⟨g, p, none⟩ = false ∧
    Blk (w.setCell ⟨g, p, none⟩ u) g T (us.take p ++ u :: us.drop p ++ rest) ∧ (∀ k, k ≠ g → (w.setCell ⟨g, p, none⟩ u).heap[k]? = w.heap[k]?) ∧ w.heap.size ≤ (w.setCell ⟨g, p, none⟩ u).heap.size := by
  subst hp
  refine ⟨⟨_, (h.cell _).trans (List.getElem?_eq_getElem (by simp))⟩, h.frozen _, ?_, fun k hk => Below.heap_setCell _ ⟨g, us.length, none⟩ u k hk, by simp [World.setCell]⟩
  have := h.set_ us.length u
  rw [List.set_append_left _ _ (by simp), snoc_set'] at this
  exact this
theorem step_atCd {wr : World} {ops : Array Oper} {o : Oper} {a : Act} {K : Act → World → Prop} {Q : Exit → Act → World → Prop} {E : Prop} (hgd : o.guard = none) (s x : Operand) (ho : o.op = .call { callee := .builtin .append, args := #[s, x], argTypes := #[28, 28] })
    (B : Nat) (v : Value) (l : List (Int × Int)) (c d : Int) (hs : a.eval s = v) (hx : a.eval x = .slice (some ⟨wr.heap.size, 0, none⟩) 1 1) (hown : OwC B wr v l) (hB : B ≤ wr.heap.size) (hn : l.length ≤ 1048576) (hc : I64 c) (hd : I64 d)
    (h : ∀ v' w1, OwC B w1 v' (l ++ [(c, d)]) → (∀ w, Below B w wr → Below B w w1) → wr.grownBy w1 v.ownBlock → wr.heap.size + 1 ≤ w1.heap.size → K (a.put o.dst v') w1) :
    if Region.wanted o (yielded ops a.tmps) = true then Oper.wp Try.prog o a (wr.alloc (.cells #[.int .i64 c, .int .i64 d] 35)).drew K Q else E := by
  have hw : Region.wanted o (yielded ops a.tmps) = true := by simp [Region.wanted, hgd]
  rw [if_pos hw]
  obtain ⟨_, o1, o2⟩ := hown
  have hal : Below wr.heap.size wr (wr.alloc (.cells #[.int .i64 c, .int .i64 d] 35)).drew := bl_drew (Below.alloc (Below.refl _ _) (Nat.le_refl _) _)
  refine wp_append_src (P := Try.prog) (w := (wr.alloc (.cells #[.int .i64 c, .int .i64 d] 35)).drew) s x 28 ho B 35 (.agg #[.int .i64 0, .int .i64 0]) 2 16 Try.underlying28 (by kernel_rfl) rfl (by decide) (by decide) v l.length (l.flatMap cC) hs (o1.alloc _) (some ⟨wr.heap.size, 0, none⟩) 1 1 [.int .i64 c, .int .i64 d] hx ((Blk.new wr 35 [.int .i64 c, .int .i64 d]).rd rfl) (by simp [Value.oneCell']) hn (by omega) (by simp; omega) (fun v' w1 g1 g2 g3 => ?_)
  refine h v' w1 ⟨?_, by simpa [cC] using g1, ?_⟩ (fun w hb => (((hb.alloc hB _).drew).grown g2 (by simp; omega) (fun k hk => (o1.lt k hk).1))) (grown_bel hal g2) (by have := g2.size; simpa using this)
  · simpa using own_form g1
  · intro y hy
    rcases List.mem_append.1 hy with hy | hy
    · exact o2 y hy
    · simp at hy; subst hy; exact ⟨hc, hd⟩
/-- a slice whose elements are slices of the call's own -/
def RdO (w : World) (A : Option Addr) (mm : List (List (Int × Int))) : Prop := ∃ us, Rd w 1 A mm.length us ∧ ∀ (i : Nat) (l : List (Int × Int)), mm[i]? = some l → ∃ u, us[i]? = some u ∧ OwC 0 w u l
theorem OwCC.rdO {B : Nat} {w : World} {A : Option Addr} {n c : Nat} {ll : List (List (Int × Int))} (h : OwCC B w (.slice A n c) ll) : RdO w A ll := by
  obtain ⟨⟨A', c', e⟩, vs, h1, h2⟩ := h
  injection e with e1 e2 e3
  subst e2
  exact ⟨vs, Rd.of_own h1, h2⟩
theorem RdO.below {w w' : World} {A : Option Addr} {ll : List (List (Int × Int))} (h : RdO w A ll) (hb : Below w.heap.size w w') : RdO w' A ll := by
  obtain ⟨vs, h1, h2⟩ := h
  exact ⟨vs, h1.below hb, fun i l hl => by obtain ⟨u, hu, ho⟩ := h2 i l hl; exact ⟨u, hu, ho.bel hb⟩⟩
theorem RdO.nil_ (w : World) (A : Option Addr) : RdO w A [] := ⟨[], ⟨by simp, fun h => absurd h (by simp)⟩, by simp⟩
theorem RdO.take_ {w : World} {A : Option Addr} {ll : List (List (Int × Int))} (h : RdO w A ll) {k : Nat} (hk : k ≤ ll.length) : RdO w A (ll.take k) := by
  obtain ⟨vs, h1, h2⟩ := h
  have h3 := h1.take (k := k) hk
  rw [Nat.mul_one] at h3
  refine ⟨vs.take k, by rw [List.length_take, Nat.min_eq_left hk]; exact h3, fun i l hl => ?_⟩
  rw [List.getElem?_take] at hl
  split at hl
  · rename_i hik
    obtain ⟨u, hu, ho⟩ := h2 i l hl
    exact ⟨u, by rw [List.getElem?_take, if_pos hik]; exact hu, ho⟩
  · cases hl
theorem RdO.cut_ {w : World} {g : Nat} {ll : List (List (Int × Int))} (h : RdO w (some ⟨g, 0, none⟩) ll) {k cap : Nat} (hk : k ≤ ll.length) (hc : ll.length ≤ cap) (hne : ¬ cap = k) : RdO w (some ⟨g, k, none⟩) (ll.drop k) := by
  obtain ⟨vs, h1, h2⟩ := h
  have h3 := h1.cut (k := k) hk hc
  rw [if_neg hne, Nat.mul_one] at h3
  have e2 : (some (⟨g, 0, none⟩ : Addr)).map (·.add k) = some ⟨g, k, none⟩ := by simp [Addr.add_lit]
  rw [e2] at h3
  refine ⟨vs.drop k, by rw [List.length_drop]; exact h3, fun i l hl => ?_⟩
  rw [List.getElem?_drop] at hl
  obtain ⟨u, hu, ho⟩ := h2 _ l hl
  exact ⟨u, by rw [List.getElem?_drop]; exact hu, ho⟩
theorem wpList_apsCC {wr : World} {ops : Array Oper} {rest : List Oper} {o : Oper} {a : Act} {Q : Exit → Act → World → Prop} (hgd : o.guard = none) (s x : Operand) (ho : o.op = .call { callee := .builtin .append, args := #[s, x], argTypes := #[94, 94] })
    (B : Nat) (v : Value) (ll mm : List (List (Int × Int))) (A : Option Addr) (c : Nat) (hs : a.eval s = v) (n : Nat) (hx : a.eval x = .slice A n c) (hown : OwCC B wr v ll) (hr : RdO wr A mm) (hnm : n = mm.length) (hB : B ≤ wr.heap.size) (hn : ll.length ≤ 1048576) (hm : mm.length ≤ 1048576)
    (h : ∀ v' w1, OwCC B w1 v' (ll ++ mm) → (∀ w, Below B w wr → Below B w w1) → (∀ {u l}, OwC 0 wr u l → OwC 0 w1 u l) → wpList Try.prog ops Q rest (a.put o.dst v') w1) :
    wpList Try.prog ops Q (o :: rest) a wr := by
  subst hnm
  obtain ⟨_, vs, o1, o2⟩ := hown
  obtain ⟨us, r1, r2⟩ := hr
  have hul : us.length = mm.length := by have := r1.1; omega
  refine wpList_append_src (P := Try.prog) hgd s x 94 ho B 28 (.slice none 0 0) 1 24 Try.underlying94 (by kernel_rfl) rfl (by decide) (by decide) v ll.length vs hs o1 A mm.length c us hx r1 ?_ hn hm hB (fun v' w1 g1 g2 g3 => ?_)
  · intro y hy
    obtain ⟨i, hi, rfl⟩ := List.getElem_of_mem hy
    obtain ⟨u, hu, ho⟩ := r2 i _ (List.getElem?_eq_getElem (by omega))
    rw [List.getElem?_eq_getElem hi] at hu
    injection hu with hu
    rw [hu]; exact fam_C.one ho
  · exact h v' w1 (OwS.app (T := 28) (O := OwC 0) fam_C (B := B) (ll := ll) (w := wr) (fun i l hl => o2 i l hl) (by have := o1.1; omega) r2 g1 g2 (own_typ o1)) (fun w0 hb => hb.grown g2 hB (fun k hk => (o1.lt k hk).1)) (fun ho => fam_C.far ho g2 (own_typ o1))
theorem wpList_ap1CC {wr : World} {ops : Array Oper} {rest : List Oper} {o : Oper} {a : Act} {Q : Exit → Act → World → Prop} (hgd : o.guard = none) (s x : Operand) (ho : o.op = .call { callee := .builtin .append, args := #[s, x], argTypes := #[94, 94] })
    (B : Nat) (v : Value) (ll : List (List (Int × Int))) (u : Value) (l : List (Int × Int)) (hs : a.eval s = v) (hx : a.eval x = .slice (some ⟨wr.heap.size, 0, none⟩) 1 1) (hown : OwCC B wr v ll) (hu : OwC 0 wr u l) (hB : B ≤ wr.heap.size) (hn : ll.length ≤ 1048576)
    (h : ∀ v' w1, OwCC B w1 v' (ll ++ [l]) → (∀ w, Below B w wr → Below B w w1) → wr.grownBy w1 v.ownBlock → wr.heap.size + 1 ≤ w1.heap.size → wpList Try.prog ops Q rest (a.put o.dst v') w1) :
    wpList Try.prog ops Q (o :: rest) a (wr.alloc (.cells #[u] 28)) := by
  obtain ⟨_, vs, o1, o2⟩ := hown
  have hal : Below wr.heap.size wr (wr.alloc (.cells #[u] 28)) := Below.alloc (Below.refl _ _) (Nat.le_refl _) _
  refine append_at (P := Try.prog) hgd s x 94 ho B 28 (.slice none 0 0) 1 24 Try.underlying94 (by kernel_rfl) rfl (by decide) (by decide) v ll.length vs [u] hs hx o1 rfl (by intro y hy; simp at hy; subst hy; exact fam_C.one hu) hn hB (fun v' w1 g1 g2 g3 => ?_)
  have g2' := grown_bel hal g2
  exact h v' w1 (OwS.snoc (T := 28) (O := OwC 0) fam_C (B := B) (ll := ll) (w := wr) (fun i l hl => o2 i l hl) (by have := o1.1; omega) hu g1 g2' (own_typ o1)) (fun w hb => below_grown o1 hB hb g2) g2' (by have := g2.size; simpa using this)
theorem OwCC.new_ {B : Nat} {w : World} (hB : B ≤ w.heap.size) : OwCC B (w.alloc (.cells #[] 28)) (.slice (some ⟨w.heap.size, 0, none⟩) 0 0) [] := OwS.new_ _ _ hB
theorem OwCC.mono {B B' : Nat} {w : World} {v : Value} {ll : List (List (Int × Int))} (h : OwCC B w v ll) (hB : B' ≤ B) : OwCC B' w v ll := OwS.mono h hB
theorem OwCC.blk' {B : Nat} {w : World} {v : Value} {ll : List (List (Int × Int))} (h : OwCC B w v ll) (hl : ll ≠ []) : ∃ g c, v = .slice (some ⟨g, 0, none⟩) ll.length c ∧ ll.length ≤ c := by
  obtain ⟨_, vs, h1, _⟩ := h
  obtain ⟨g, cap, rest, hv, _, hn, _⟩ := row_blk h1 (List.length_pos_iff.2 hl)
  exact ⟨g, cap, hv, hn⟩
theorem OwCC.cap {B : Nat} {w : World} {A : Option Addr} {n c : Nat} {ll : List (List (Int × Int))} (h : OwCC B w (.slice A n c) ll) : n ≤ c := by
  obtain ⟨⟨A', c', e⟩, vs, h1, _⟩ := h
  rcases h1.2 with ⟨e, h0⟩ | ⟨g, cap, cur, hv, _, _, hn, _⟩
  · injection e with e1 e2 e3; omega
  · injection e with e1 e2 e3
    injection hv with f1 f2 f3
    omega
end Go.Proofs.Ytdcjhfmkkcakhaa

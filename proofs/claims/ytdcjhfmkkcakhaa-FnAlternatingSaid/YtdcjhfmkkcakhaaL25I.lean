/-
  ListAlternating of the program: it returns the matrices with alternating signs in the reference's order; nothing that was there is written; no condition.
-/
import Derived.Test.YtdcjhfmkkcakhaaL25K
import Derived.Test.YtdcjhfmkkcakhaaDrawn
import Derived.Deep.CutRange
import Derived.Laws.EntriesVeiled
namespace Go.Proofs.Ytdcjhfmkkcakhaa
open Go.ChangeShapes Go.WideShapes Go.ChangeAt Go.RowKit Go.Deep
set_option linter.unusedVariables false
/-- what holds in the midst of the region that lays the variables, whatever has come up -/
def Laid (w0 w : World) (l : Bool) (P : Nat → Prop) : Prop := l = true → ∃ b, w0.heap.size < b ∧ P b
def tm3 (g : Nat) (n : Nat) (s3 s4 s5 s10 s11 s12 s13 : Value) : Array Value := #[.int .i64 (n : Int), .pointer (some ⟨g, 0, none⟩), .slice none 0 0, s3, s4, s5, undef, .int .i64 (n : Int), .bool true, .bool false, s10, s11, s12, s13, undef, undef, undef, undef, undef, undef, undef, undef, undef, undef, undef, undef, undef]
structure R3S (w0 : World) (n : Nat) (l0 l1 l2 l3 l4 l5 l6 l7 l8 l9 : Bool) (w : World) (s3 s4 s5 s10 s11 s12 s13 : Value) : Prop where
  bel : Below w0.heap.size w0 w
  nb : Blk w w0.heap.size 3 [.int .i64 (n : Int)]
  h0 : Laid w0 w l0 fun b => s10 = .slice (some ⟨b, 0, none⟩) 0 0 ∧ Blk w b 76 []
  h1 : Laid w0 w l1 fun b => s11 = .slice (some ⟨b, 0, none⟩) 0 0 ∧ Blk w b 24 []
  h2 : l2 = true → s12 = .int .i64 (n : Int)
  h3 : Laid w0 w l3 fun b => s13 = .slice (some ⟨b, 0, none⟩) n n ∧ Blk w b 3 (List.replicate n (.int .i64 0))
  h4 : Laid w0 w l4 fun b => s3 = .pointer (some ⟨b, 0, none⟩) ∧ Blk w b 78 [if l7 then s10 else .slice none 0 0]
  h5 : Laid w0 w l5 fun b => s4 = .pointer (some ⟨b, 0, none⟩) ∧ Blk w b 76 [if l8 then s11 else .slice none 0 0]
  h6 : Laid w0 w l6 fun b => s5 = .pointer (some ⟨b, 0, none⟩) ∧ Blk w b 24 [if l9 then s13 else .slice none 0 0]
  h7 : l7 = true → l0 = true ∧ l4 = true
  h8 : l8 = true → l1 = true ∧ l5 = true
  h9 : l9 = true → l3 = true ∧ l6 = true
theorem Laid.keep {w0 w w' : World} {l : Bool} {P P' : Nat → Prop} (h : Laid w0 w l P) (hp : ∀ b, P b → P' b) : Laid w0 w' l P' := fun e => by
  obtain ⟨b, h1, h2⟩ := h e
  exact ⟨b, h1, hp b h2⟩
theorem Laid.mk' {w0 w : World} {l : Bool} {P : Nat → Prop} {b : Nat} (h1 : w0.heap.size < b) (h2 : P b) : Laid w0 w l P := fun _ => ⟨b, h1, h2⟩
theorem R3S.lt {w0 : World} {n : Nat} {l0 l1 l2 l3 l4 l5 l6 l7 l8 l9 : Bool} {w : World} {s3 s4 s5 s10 s11 s12 s13 : Value} (h : R3S w0 n l0 l1 l2 l3 l4 l5 l6 l7 l8 l9 w s3 s4 s5 s10 s11 s12 s13) : w0.heap.size < w.heap.size := h.nb.lt
section
variable {w0 : World} {n : Nat} {l0 l1 l2 l3 l4 l5 l6 l7 l8 l9 : Bool} {w : World} {s3 s4 s5 s10 s11 s12 s13 : Value}
theorem R3S.st0 (h : R3S w0 n false l1 l2 l3 l4 l5 l6 l7 l8 l9 w s3 s4 s5 s10 s11 s12 s13) : R3S w0 n true l1 l2 l3 l4 l5 l6 l7 l8 l9 (w.alloc (.cells #[] 76)) s3 s4 s5 (.slice (some ⟨w.heap.size, 0, none⟩) 0 0) s11 s12 s13 := by
  have e7 : l7 = false := by cases l7; rfl; exact absurd (h.h7 rfl).1 (by decide)
  subst e7
  exact ⟨bl_alloc h.bel _, h.nb.alloc _, .mk' h.lt ⟨rfl, Blk.new w _ []⟩, h.h1.keep fun b k => ⟨k.1, k.2.alloc _⟩, h.h2, h.h3.keep fun b k => ⟨k.1, k.2.alloc _⟩, h.h4.keep fun b k => ⟨k.1, k.2.alloc _⟩, h.h5.keep fun b k => ⟨k.1, k.2.alloc _⟩, h.h6.keep fun b k => ⟨k.1, k.2.alloc _⟩, fun e => absurd e (by decide), h.h8, h.h9⟩
theorem R3S.st1 (h : R3S w0 n l0 false l2 l3 l4 l5 l6 l7 l8 l9 w s3 s4 s5 s10 s11 s12 s13) : R3S w0 n l0 true l2 l3 l4 l5 l6 l7 l8 l9 (w.alloc (.cells #[] 24)) s3 s4 s5 s10 (.slice (some ⟨w.heap.size, 0, none⟩) 0 0) s12 s13 := by
  have e8 : l8 = false := by cases l8; rfl; exact absurd (h.h8 rfl).1 (by decide)
  subst e8
  exact ⟨bl_alloc h.bel _, h.nb.alloc _, h.h0.keep fun b k => ⟨k.1, k.2.alloc _⟩, .mk' h.lt ⟨rfl, Blk.new w _ []⟩, h.h2, h.h3.keep fun b k => ⟨k.1, k.2.alloc _⟩, h.h4.keep fun b k => ⟨k.1, k.2.alloc _⟩, h.h5.keep fun b k => ⟨k.1, k.2.alloc _⟩, h.h6.keep fun b k => ⟨k.1, k.2.alloc _⟩, h.h7, fun e => absurd e (by decide), h.h9⟩
theorem R3S.st2 (h : R3S w0 n l0 l1 l2 l3 l4 l5 l6 l7 l8 l9 w s3 s4 s5 s10 s11 s12 s13) : R3S w0 n l0 l1 true l3 l4 l5 l6 l7 l8 l9 w s3 s4 s5 s10 s11 (.int .i64 (n : Int)) s13 :=
  ⟨h.bel, h.nb, h.h0, h.h1, fun _ => rfl, h.h3, h.h4, h.h5, h.h6, h.h7, h.h8, h.h9⟩
theorem R3S.st3 (h : R3S w0 n l0 l1 l2 false l4 l5 l6 l7 l8 l9 w s3 s4 s5 s10 s11 s12 s13) : R3S w0 n l0 l1 l2 true l4 l5 l6 l7 l8 l9 (w.alloc (.cells (Array.replicate n (.int .i64 0)) 3)) s3 s4 s5 s10 s11 s12 (.slice (some ⟨w.heap.size, 0, none⟩) n n) := by
  have e9 : l9 = false := by cases l9; rfl; exact absurd (h.h9 rfl).1 (by decide)
  subst e9
  have hn := Blk.new w 3 (List.replicate n (.int .i64 0))
  rw [List.toArray_replicate] at hn
  exact ⟨bl_alloc h.bel _, h.nb.alloc _, h.h0.keep fun b k => ⟨k.1, k.2.alloc _⟩, h.h1.keep fun b k => ⟨k.1, k.2.alloc _⟩, h.h2, .mk' h.lt ⟨rfl, hn⟩, h.h4.keep fun b k => ⟨k.1, k.2.alloc _⟩, h.h5.keep fun b k => ⟨k.1, k.2.alloc _⟩, h.h6.keep fun b k => ⟨k.1, k.2.alloc _⟩, h.h7, h.h8, fun e => absurd e (by decide)⟩
theorem R3S.st4 (h : R3S w0 n l0 l1 l2 l3 false l5 l6 l7 l8 l9 w s3 s4 s5 s10 s11 s12 s13) : R3S w0 n l0 l1 l2 l3 true l5 l6 l7 l8 l9 (w.alloc (.cells #[.slice none 0 0] 78)) (.pointer (some ⟨w.heap.size, 0, none⟩)) s4 s5 s10 s11 s12 s13 := by
  have e7 : l7 = false := by cases l7; rfl; exact absurd (h.h7 rfl).2 (by decide)
  subst e7
  exact ⟨bl_alloc h.bel _, h.nb.alloc _, h.h0.keep fun b k => ⟨k.1, k.2.alloc _⟩, h.h1.keep fun b k => ⟨k.1, k.2.alloc _⟩, h.h2, h.h3.keep fun b k => ⟨k.1, k.2.alloc _⟩, .mk' h.lt ⟨rfl, Blk.new w _ [.slice none 0 0]⟩, h.h5.keep fun b k => ⟨k.1, k.2.alloc _⟩, h.h6.keep fun b k => ⟨k.1, k.2.alloc _⟩, fun e => absurd e (by decide), h.h8, h.h9⟩
theorem R3S.st5 (h : R3S w0 n l0 l1 l2 l3 l4 false l6 l7 l8 l9 w s3 s4 s5 s10 s11 s12 s13) : R3S w0 n l0 l1 l2 l3 l4 true l6 l7 l8 l9 (w.alloc (.cells #[.slice none 0 0] 76)) s3 (.pointer (some ⟨w.heap.size, 0, none⟩)) s5 s10 s11 s12 s13 := by
  have e8 : l8 = false := by cases l8; rfl; exact absurd (h.h8 rfl).2 (by decide)
  subst e8
  exact ⟨bl_alloc h.bel _, h.nb.alloc _, h.h0.keep fun b k => ⟨k.1, k.2.alloc _⟩, h.h1.keep fun b k => ⟨k.1, k.2.alloc _⟩, h.h2, h.h3.keep fun b k => ⟨k.1, k.2.alloc _⟩, h.h4.keep fun b k => ⟨k.1, k.2.alloc _⟩, .mk' h.lt ⟨rfl, Blk.new w _ [.slice none 0 0]⟩, h.h6.keep fun b k => ⟨k.1, k.2.alloc _⟩, h.h7, fun e => absurd e (by decide), h.h9⟩
theorem R3S.st6 (h : R3S w0 n l0 l1 l2 l3 l4 l5 false l7 l8 l9 w s3 s4 s5 s10 s11 s12 s13) : R3S w0 n l0 l1 l2 l3 l4 l5 true l7 l8 l9 (w.alloc (.cells #[.slice none 0 0] 24)) s3 s4 (.pointer (some ⟨w.heap.size, 0, none⟩)) s10 s11 s12 s13 := by
  have e9 : l9 = false := by cases l9; rfl; exact absurd (h.h9 rfl).2 (by decide)
  subst e9
  exact ⟨bl_alloc h.bel _, h.nb.alloc _, h.h0.keep fun b k => ⟨k.1, k.2.alloc _⟩, h.h1.keep fun b k => ⟨k.1, k.2.alloc _⟩, h.h2, h.h3.keep fun b k => ⟨k.1, k.2.alloc _⟩, h.h4.keep fun b k => ⟨k.1, k.2.alloc _⟩, h.h5.keep fun b k => ⟨k.1, k.2.alloc _⟩, .mk' h.lt ⟨rfl, Blk.new w _ [.slice none 0 0]⟩, h.h7, h.h8, fun e => absurd e (by decide)⟩
theorem Blk.ne {w : World} {b b' : Nat} {E E' : TypeId} {xs ys : List Value} (h : Blk w b E xs) (k : Blk w b' E' ys) (hne : E ≠ E' ∨ xs.length ≠ ys.length) : b ≠ b' := by
  rintro rfl
  unfold Blk at h k
  rw [h] at k
  injection k with k
  injection k with k1 k2
  have := congrArg Array.size k1
  simp at this
  rcases hne with hne | hne
  · exact hne k2
  · exact hne this
theorem R3S.st7 {b4 : Nat} (h : R3S w0 n true l1 l2 l3 true l5 l6 false l8 l9 w (.pointer (some ⟨b4, 0, none⟩)) s4 s5 s10 s11 s12 s13) (hb : w0.heap.size < b4) (B : Blk w b4 78 [.slice none 0 0]) : R3S w0 n true l1 l2 l3 true l5 l6 true l8 l9 (w.setCell ⟨b4, 0, none⟩ s10) (.pointer (some ⟨b4, 0, none⟩)) s4 s5 s10 s11 s12 s13 :=
  ⟨bl_set h.bel (Nat.le_of_lt hb) _, h.nb.farN _ _ (h.nb.ne B (.inl (by decide))) _, h.h0.keep fun b k => ⟨k.1, k.2.farN _ _ (k.2.ne B (.inl (by decide))) _⟩, h.h1.keep fun b k => ⟨k.1, k.2.farN _ _ (k.2.ne B (.inl (by decide))) _⟩, h.h2, h.h3.keep fun b k => ⟨k.1, k.2.farN _ _ (k.2.ne B (.inl (by decide))) _⟩,
    .mk' hb ⟨rfl, B.set_ 0 s10⟩, h.h5.keep fun b k => ⟨k.1, k.2.farN _ _ (k.2.ne B (.inl (by decide))) _⟩, h.h6.keep fun b k => ⟨k.1, k.2.farN _ _ (k.2.ne B (.inl (by decide))) _⟩, fun _ => ⟨rfl, rfl⟩, h.h8, h.h9⟩
theorem R3S.st8 {b5 : Nat} (h : R3S w0 n l0 true l2 l3 l4 true l6 l7 false l9 w s3 (.pointer (some ⟨b5, 0, none⟩)) s5 s10 s11 s12 s13) (hb : w0.heap.size < b5) (B : Blk w b5 76 [.slice none 0 0]) : R3S w0 n l0 true l2 l3 l4 true l6 l7 true l9 (w.setCell ⟨b5, 0, none⟩ s11) s3 (.pointer (some ⟨b5, 0, none⟩)) s5 s10 s11 s12 s13 :=
  ⟨bl_set h.bel (Nat.le_of_lt hb) _, h.nb.farN _ _ (h.nb.ne B (.inl (by decide))) _, h.h0.keep fun b k => ⟨k.1, k.2.farN _ _ (k.2.ne B (.inr (by simp))) _⟩, h.h1.keep fun b k => ⟨k.1, k.2.farN _ _ (k.2.ne B (.inl (by decide))) _⟩, h.h2, h.h3.keep fun b k => ⟨k.1, k.2.farN _ _ (k.2.ne B (.inl (by decide))) _⟩,
    h.h4.keep fun b k => ⟨k.1, k.2.farN _ _ (k.2.ne B (.inl (by decide))) _⟩, .mk' hb ⟨rfl, B.set_ 0 s11⟩, h.h6.keep fun b k => ⟨k.1, k.2.farN _ _ (k.2.ne B (.inl (by decide))) _⟩, h.h7, fun _ => ⟨rfl, rfl⟩, h.h9⟩
theorem R3S.st9 {b6 : Nat} (h : R3S w0 n l0 l1 l2 true l4 l5 true l7 l8 false w s3 s4 (.pointer (some ⟨b6, 0, none⟩)) s10 s11 s12 s13) (hb : w0.heap.size < b6) (B : Blk w b6 24 [.slice none 0 0]) : R3S w0 n l0 l1 l2 true l4 l5 true l7 l8 true (w.setCell ⟨b6, 0, none⟩ s13) s3 s4 (.pointer (some ⟨b6, 0, none⟩)) s10 s11 s12 s13 :=
  ⟨bl_set h.bel (Nat.le_of_lt hb) _, h.nb.farN _ _ (h.nb.ne B (.inl (by decide))) _, h.h0.keep fun b k => ⟨k.1, k.2.farN _ _ (k.2.ne B (.inl (by decide))) _⟩, h.h1.keep fun b k => ⟨k.1, k.2.farN _ _ (k.2.ne B (.inr (by simp))) _⟩, h.h2, h.h3.keep fun b k => ⟨k.1, k.2.farN _ _ (k.2.ne B (.inl (by decide))) _⟩,
    h.h4.keep fun b k => ⟨k.1, k.2.farN _ _ (k.2.ne B (.inl (by decide))) _⟩, h.h5.keep fun b k => ⟨k.1, k.2.farN _ _ (k.2.ne B (.inl (by decide))) _⟩, .mk' hb ⟨rfl, B.set_ 0 s13⟩, h.h7, h.h8, fun _ => ⟨rfl, rfl⟩⟩
end
def R3 (w0 : World) (n : Nat) (L : Array Bool) (a : Act) (w : World) : Prop :=
  ∃ (s3 s4 s5 s10 s11 s12 s13 : Value), a = { tmps := tm3 w0.heap.size n s3 s4 s5 s10 s11 s12 s13, defers := [] } ∧
    R3S w0 n (L.getD 0 false) (L.getD 1 false) (L.getD 2 false) (L.getD 3 false) (L.getD 4 false) (L.getD 5 false) (L.getD 6 false) (L.getD 7 false) (L.getD 8 false) (L.getD 9 false) w s3 s4 s5 s10 s11 s12 s13
/-- the matrix under way, one row more in each round -/
structure LB (n gn gm go gc bc b0 : Nat) (w0 w : World) (k : Nat) (A : Option Addr) (c : Nat) (gs : List Nat) : Prop where
  bel : Below w0.heap.size w0 w
  nb : Blk w gn 3 [.int .i64 (n : Int)]
  mb : Blk w gm 76 [.slice A k c]
  mo : OwV w0.heap.size w (.slice A k c) (gs.map (rowV n))
  gl : gs.length = k
  gd : ∀ i j g : Nat, gs[i]? = some g → gs[j]? = some g → i = j
  mr : ∀ g ∈ gs, w0.heap.size ≤ g ∧ g ≠ gn ∧ g ≠ bc ∧ Blk w g 3 (List.replicate n (.int .i64 0))
  cb : Blk w gc 24 [.slice (some ⟨bc, 0, none⟩) n n]
  cc : Blk w bc 3 (List.replicate n (.int .i64 0))
  ob : Blk w go 78 [.slice (some ⟨b0, 0, none⟩) 0 0]
  o0 : Blk w b0 76 []
  mc : ∀ q, (Value.slice A k c).ownBlock = some q → q ≠ gc
def rowM0 (n : Nat) : Obj := .cells (Array.replicate n (.int .i64 0)) 3
theorem LB.step {n gn gm go gc bc b0 : Nat} {w0 wr w1 : World} {k : Nat} {A A' : Option Addr} {c c' L' : Nat} {gs : List Nat} (h : LB n gn gm go gc bc b0 w0 wr k A c gs) (hgm : w0.heap.size ≤ gm)
    (o : OwV w0.heap.size w1 (.slice A' L' c') (gs.map (rowV n) ++ [rowV n wr.heap.size])) (hg : ((wr.alloc (rowM0 n)).alloc (.cells #[rowV n wr.heap.size] 24)).grownBy w1 (Value.slice A k c).ownBlock)
    (hv : (Value.slice A' L' c').ownBlock = (Value.slice A k c).ownBlock ∨ ∀ q, (Value.slice A' L' c').ownBlock = some q → wr.heap.size ≤ q) :
    Blk w1 gm 76 [.slice A k c] ∧ LB n gn gm go gc bc b0 w0 (w1.setCell ⟨gm, 0, none⟩ (.slice A' (k + 1) c')) (k + 1) A' c' (gs ++ [wr.heap.size]) := by
  obtain ⟨⟨A9, c9, e9⟩, o1, o2⟩ := o
  have hL : L' = k + 1 := by injection e9 with _ e _; rw [e]; simp [h.gl]
  subst hL
  have hal : Below wr.heap.size wr ((wr.alloc (rowM0 n)).alloc (.cells #[rowV n wr.heap.size] 24)) := bl_alloc (bl_alloc (Below.refl _ _) _) _
  have ht := own_typ (ownsRow_bel h.mo.2.1 hal)
  have hlo : ∀ q, (Value.slice A k c).ownBlock = some q → w0.heap.size ≤ q := fun q hq => (h.mo.2.1.lt q hq).1
  have hsz : w0.heap.size ≤ wr.heap.size := h.bel.size
  have k1 := (h.nb.bel hal).keepT hg ht (by decide)
  have k2 := (h.mb.bel hal).keepT hg ht (by decide)
  have k3 : ∀ g ∈ gs, Blk w1 g 3 (List.replicate n (.int .i64 0)) := fun g e => ((h.mr g e).2.2.2.bel hal).keepT hg ht (by decide)
  have hnew : Blk (wr.alloc (rowM0 n)) wr.heap.size 3 (List.replicate n (.int .i64 0)) := by
    have := Blk.new wr 3 (List.replicate n (.int .i64 0))
    rwa [List.toArray_replicate] at this
  have k4 := (hnew.alloc (.cells #[rowV n wr.heap.size] 24)).keepT hg ht (by decide)
  have k5 : Blk w1 gc 24 [.slice (some ⟨bc, 0, none⟩) n n] := (hg.block _ (h.cb.bel hal).lt (fun e => h.mc _ e.symm rfl)).trans (h.cb.bel hal)
  have k6 := (h.cc.bel hal).keepT hg ht (by decide)
  have k7 := (h.ob.bel hal).keepT hg ht (by decide)
  have k8 := (h.o0.bel hal).keepT hg ht (by decide)
  have hb : Below w0.heap.size w0 w1 := (h.bel.trans (hal.mono hsz)).grown hg (Nat.le_trans hsz hal.size) hlo
  refine ⟨k2, Below.setCell hb hgm _, k1.farN _ _ (k1.ne' k2 (by decide)) _, k2.set_ 0 _, ⟨⟨A', c', by simp [h.gl]⟩, ?_, fun u hu => by obtain ⟨g, _, rfl⟩ := List.mem_map.1 hu; rfl⟩, by simp [h.gl], fun i j g hi hj => ?_, fun g hgm2 => ?_, k5.farN _ _ (k5.ne' k2 (by decide)) _, k6.farN _ _ (k6.ne' k2 (by decide)) _, k7.farN _ _ (k7.ne' k2 (by decide)) _, k8.farN _ _ (k8.ne k2 (.inr (by simp))) _, fun q hq => ?_⟩
  · have := ownsRow_set (i := 0) o1 k2 (by decide) (.slice A' (k + 1) c')
    simpa using this
  · have hin : ∀ (i : Nat), gs[i]? = some wr.heap.size → False := fun i e => by
      have := (h.mr _ (List.mem_of_getElem? e)).2.2.2.lt
      omega
    have hlast : ∀ (i g : Nat), (gs ++ [wr.heap.size])[i]? = some g → (gs[i]? = some g ∧ i < gs.length) ∨ (i = gs.length ∧ g = wr.heap.size) := fun i g e => by
      by_cases hi : i < gs.length
      · rw [List.getElem?_append_left hi] at e; exact .inl ⟨e, hi⟩
      · rw [List.getElem?_append_right (by omega)] at e
        have hz : i - gs.length = 0 := by
          rcases Nat.eq_zero_or_pos (i - gs.length) with e0 | e0
          · exact e0
          · rw [List.getElem?_eq_none (by simp; omega)] at e; cases e
        rw [hz] at e
        exact .inr ⟨by omega, by simpa using e.symm⟩
    rcases hlast i g hi with ⟨a, a2⟩ | ⟨a, a2⟩ <;> rcases hlast j g hj with ⟨b, b2⟩ | ⟨b, b2⟩
    · exact h.gd i j g a b
    · rw [b2] at a; exact absurd a (fun e => hin i e)
    · rw [a2] at b; exact absurd b (fun e => hin j e)
    · omega
  · rcases List.mem_append.1 hgm2 with e | e
    · obtain ⟨a, b, c2, d⟩ := h.mr g e
      exact ⟨a, b, c2, (k3 g e).farN _ _ ((k3 g e).ne' k2 (by decide)) _⟩
    · simp at e
      subst e
      exact ⟨hsz, by have := h.nb.lt; omega, by have := h.cc.lt; omega, k4.farN _ _ (k4.ne' k2 (by decide)) _⟩
  · rcases hv with hv | hv
    · rw [hv] at hq; exact h.mc q hq
    · have := hv q hq
      have := h.cb.lt
      omega
theorem step_apsV' {W : World} {ops : Array Oper} {o : Oper} {a : Act} {K : Act → World → Prop} {Q : Exit → Act → World → Prop} {E : Prop} (hgd : o.guard = none) (s x : Operand) (ho : o.op = .call { callee := .builtin .append, args := #[s, x], argTypes := #[76, 76] })
    (B : Nat) (v : Value) (vs us : List Value) (A : Option Addr) (n c : Nat) (hs : a.eval s = v) (hx : a.eval x = .slice A n c) (hown : OwV B W v vs) (hr : Rd W 1 A n us) (h1 : ∀ u ∈ us, u.oneCell' = true) (hB : B ≤ W.heap.size) (hn : vs.length ≤ 1048576) (hm : us.length ≤ 1048576)
    (h : ∀ A' L c' w1, Hid (L = (vs ++ us).length) → OwV B w1 (.slice A' L c') (vs ++ us) → W.grownBy w1 v.ownBlock → ((Value.slice A' L c').ownBlock = v.ownBlock ∨ (Value.slice A' L c').ownBlock = some W.heap.size) → K (a.put o.dst (.slice A' L c')) w1) :
    if Region.wanted o (yielded ops a.tmps) = true then Oper.wp Try.prog o a W K Q else E := by
  obtain ⟨_, o1, o2⟩ := hown
  have hnl : us.length = n := by have := hr.1; omega
  refine step_append_src (P := Try.prog) hgd s x 76 ho B 24 (.slice none 0 0) 1 24 Try.underlying76 (by kernel_rfl) rfl (by decide) (by decide) v vs.length vs hs o1 A n c us hx hr h1 hn (by omega) hB (fun v' w1 g1 g2 g3 => ?_)
  obtain ⟨A', c', rfl⟩ := own_form g1
  rw [← hnl, ← List.length_append] at g1 g3 ⊢
  exact h A' _ c' w1 (Lib.hid rfl) ⟨⟨_, _, rfl⟩, g1, fun y hy => (List.mem_append.1 hy).elim (o2 y) (h1 y)⟩ g2 g3
theorem InIII.wide {lo hi lo' hi' : Nat} {w : World} {v : Value} {ll : List (List (List Int))} (h : InIII lo hi w v ll) (h1 : lo' ≤ lo) (h2 : hi ≤ hi') : InIII lo' hi' w v ll := InS.wide h h1 h2
def small3 (L : List (List (List Int))) : Prop := ∀ x ∈ L, x.length ≤ 1048576 ∧ ∀ r ∈ x, r.length ≤ 1048576
theorem spL_small : ∀ n : Fin 5, (decide ((spL n.1).length ≤ 42) && (spL n.1).all (fun m => decide (m.length ≤ 4) && m.all fun r => decide (r.length ≤ 4)) && decide (tot3 (spL n.1) ≤ 1000)) = true := by decide +kernel
theorem altL_cases (x : Int) : altL x = [] ∨ ∃ n : Nat, n ≤ 4 ∧ 1 ≤ n ∧ x = n ∧ altL x = spL n := by
  unfold altL
  split
  · rename_i h
    have := inB_true.1 h
    exact .inr ⟨x.toNat, by omega, by omega, by omega, rfl⟩
  · exact .inl rfl
theorem altL_small (x : Int) : (altL x).length ≤ 1048576 ∧ small3 (altL x) ∧ tot3 (altL x) ≤ 1048576 := by
  rcases altL_cases x with h | ⟨n, h1, _, _, h⟩
  · rw [h]; exact ⟨by simp, fun x hx => by simp at hx, by simp [tot3]⟩
  · rw [h]
    have := spL_small ⟨n, by omega⟩
    simp only [Bool.and_eq_true, decide_eq_true_eq, List.all_eq_true] at this
    exact ⟨by omega, fun m hm => ⟨by have := (this.1.2 m hm).1; omega, fun r hr => by have := (this.1.2 m hm).2 r hr; omega⟩, by omega⟩
theorem imL_eq {n : Nat} (h1 : 1 ≤ n) (h4 : n ≤ 4) : imL n = spL n ∧ (spL n).length ≤ 42 := by
  rcases n with _ | _ | _ | _ | _ | n
  · omega
  · exact ⟨l25_one, by rw [l25_num.1]; decide⟩
  · exact ⟨l25_two, by rw [l25_num.2.1]; decide⟩
  · exact ⟨l25_three, by rw [l25_num.2.2.1]; decide⟩
  · exact ⟨l25_four, by rw [l25_num.2.2.2]; decide⟩
  · omega
def pL (k g b3 b4 b5 b6 gr lo2 : Nat) (A : Option Addr) (c : Nat) (gs : List Nat) : LP := { n := k, gn := g, gm := b5, go := b4, gc := b6, gr := gr, bc := b3, lo := g, lo2 := lo2, Am := A, cm := c, gs := gs }
theorem LB.la {k b3 b4 b5 b6 b0 : Nat} {w0 wr : World} {A : Option Addr} {c : Nat} {gs : List Nat} (h1 : 1 ≤ k) (h4 : k ≤ 4) (h : LB k w0.heap.size b5 b4 b6 b3 b0 w0 wr k A c gs) (h3 : w0.heap.size < b3) (h5 : w0.heap.size < b5) (h4' : w0.heap.size < b4) (h6 : w0.heap.size < b6) (h0 : w0.heap.size < b0) :
    (pL k w0.heap.size b3 b4 b5 b6 wr.heap.size (wr.heap.size + 1) A c gs).Ok ∧ LA (pL k w0.heap.size b3 b4 b5 b6 wr.heap.size (wr.heap.size + 1) A c gs) w0 (wr.alloc (.cells #[slfL (pL k w0.heap.size b3 b4 b5 b6 wr.heap.size (wr.heap.size + 1) A c gs)] 145)) (List.replicate (k * k) 0) (List.replicate k 0) [] := by
  have hal : ∀ o, Below wr.heap.size wr (wr.alloc o) := fun o => Below.alloc (Below.refl _ _) (Nat.le_refl _) o
  have hw := h.bel.size
  have e1 := h.nb.lt
  have e2 := h.mb.lt
  have e3 := h.cb.lt
  have e4 := h.cc.lt
  have e5 := h.ob.lt
  have e6 := h.o0.lt
  refine ⟨⟨h1, h4, h.gl, h.gd, fun g hg => ?_, by show b3 ≠ w0.heap.size; omega, ?_, ?_, ?_, ?_, ?_, ?_⟩, ⟨bl_alloc h.bel _, Nat.le_refl _, by show wr.heap.size + 1 ≤ _; rw [World.size_alloc]; exact Nat.le_refl _, h.nb.alloc _, h.mb.alloc _, ?_, fun i g hi => ?_, h.cb.alloc _, ?_, ⟨some ⟨b0, 0, none⟩, 0, 0, h.ob.alloc _, ?_, fun q hq => ?_⟩, Blk.new wr _ [_], by show (List.replicate (k * k) (0 : Int)).length = k * k; simp, ?_, by show (List.replicate k (0 : Int)).length = k; simp, ?_⟩⟩
  · obtain ⟨a, b, c2, d⟩ := h.mr g hg
    exact ⟨a, by show g < wr.heap.size + 1; have := d.lt; omega, b, c2⟩
  · exact ⟨Nat.le_refl _, by show w0.heap.size < wr.heap.size + 1; omega⟩
  · exact ⟨Nat.le_of_lt h5, by show b5 < wr.heap.size + 1; omega⟩
  · exact ⟨Nat.le_of_lt h4', by show b4 < wr.heap.size + 1; omega⟩
  · exact ⟨Nat.le_of_lt h6, by show b6 < wr.heap.size + 1; omega⟩
  · exact ⟨by show w0.heap.size ≤ wr.heap.size; omega, by show wr.heap.size < wr.heap.size + 1; omega⟩
  · exact ⟨Nat.le_of_lt h3, by show b3 < wr.heap.size + 1; omega⟩
  · have := ownsRow_bel h.mo.2.1 (hal (.cells #[slfL (pL k w0.heap.size b3 b4 b5 b6 wr.heap.size (wr.heap.size + 1) A c gs)] 145))
    rw [List.length_map, h.gl] at this
    exact this
  · have hi2 : i < k := by have := (List.getElem?_eq_some_iff.1 hi).1; rw [show (pL k w0.heap.size b3 b4 b5 b6 wr.heap.size (wr.heap.size + 1) A c gs).gs = gs from rfl, h.gl] at this; exact this
    have hb := (h.mr g (List.mem_of_getElem? hi)).2.2.2.alloc (.cells #[slfL (pL k w0.heap.size b3 b4 b5 b6 wr.heap.size (wr.heap.size + 1) A c gs)] 145)
    have hr : (((List.replicate (k * k) (0 : Int)).drop (i * k)).take k).map cI = List.replicate k (.int .i64 0) := by
      rw [List.drop_replicate, List.take_replicate, List.map_replicate]
      have := Nat.mul_le_mul_right k (show i + 1 ≤ k by omega)
      rw [Nat.succ_mul] at this
      rw [Nat.min_eq_left (by omega)]
      rfl
    show Blk _ g 3 ((((List.replicate (k * k) (0 : Int)).drop (i * k)).take k).map cI)
    rw [hr]
    exact hb
  · have := h.cc.alloc (.cells #[slfL (pL k w0.heap.size b3 b4 b5 b6 wr.heap.size (wr.heap.size + 1) A c gs)] 145)
    rw [List.map_replicate]
    exact this
  · have hb := h.o0.alloc (.cells #[slfL (pL k w0.heap.size b3 b4 b5 b6 wr.heap.size (wr.heap.size + 1) A c gs)] 145)
    refine ⟨⟨_, _, rfl⟩, fun q hq => ?_, [], hb.own (Nat.le_of_lt h0) rfl (by simp [maxLen]), Parts.nil_ ..⟩
    have : b0 = q := by simpa [Value.ownBlock] using hq
    subst this
    exact hb.lt
  · have : b0 = q := by simpa [Value.ownBlock] using hq
    subst this
    exact h.o0.ne h.mb (.inr (by simp))
  · intro x hx; have := List.eq_of_mem_replicate hx; omega
  · intro x hx; have := List.eq_of_mem_replicate hx; omega
theorem gF (L : Array Bool) (h : L.size = 10) (i : Nat) (hi : i < 10) (h0 : L.getD i true = false) : L.getD i false = false := by
  have hi2 : i < L.size := by omega
  simp [Array.getD, hi2] at h0 ⊢
  exact h0
theorem gS (L : Array Bool) (h : L.size = 10) (i j : Nat) (hi : i < 10) : (L.setIfInBounds i true).getD j false = (decide (i = j) || L.getD j false) := by
  have hi2 : i < L.size := by omega
  by_cases e : i = j
  · subst e; simp [Array.getD, hi2]
  · rw [getD_set_ne false e]; simp [e]
set_option maxRecDepth 100000 in
set_option maxHeartbeats 4000000 in
theorem ListAlternating_i (x : Int) (w : World) :
    Calls Try.prog 51 #[.int .i64 x] w fun e w' => ∃ v, e = .returned v ∧ InIII w.heap.size w'.heap.size w' v (altL x) ∧ Below w.heap.size w w' := by
  cases hx : inB x 1 4
  · have he := Lib.hid (show altL x = [] by rw [altL, hx]; rfl)
    have hB := bl_alloc (Below.refl w.heap.size w) (.cells #[.int .i64 x] 3)
    go_enter Try.func51, Try.ntmps51
    go_wp2_with (go_at_call 89; refine (within_any _ _ _ _).mono ?_; rintro e wn ⟨rfl, rfl⟩)
    go_ret
    exact ⟨_, rfl, by rw [he.out]; exact InS.nil_ _ _ _ _ _, hB⟩
  · have hx2 := inB_true.1 hx
    obtain ⟨n, rfl⟩ : ∃ n : Nat, x = n := ⟨x.toNat, by omega⟩
    have h1 : 1 ≤ n := by omega
    have h4 : n ≤ 4 := by omega
    go_enter Try.func51, Try.ntmps51
    go_upto_region 3 with (go_at_call 89; refine (within_any _ _ _ _).mono ?_; rintro e wn ⟨rfl, rfl⟩)
    refine wp_region_inv (I := R3 w n) (by kernel_rfl) (by kernel_rfl) ?_ ?_ ?_
    · intro L a W2 i o hs hI ho hi hdep
      obtain ⟨s3, s4, s5, s10, s11, s12, s13, rfl, H⟩ := hI
      have hs10 : L.size = 10 := hs
      have hG := gS L hs10
      have hmk : ∀ W : World, _ := fun W => run_make_row' (P := Try.prog) (w := W) 24 3 (.int .i64 0) 8 Try.underlying24 info_int rfl .i64 .i64 n (by omega) (by omega)
      rw [made_list, List.toArray_replicate] at hmk
      have hi2 : i < 10 := (Array.getElem?_eq_some_iff.1 ho).1
      unfold tm3
      rcases i with _ | _ | _ | _ | _ | _ | _ | _ | _ | _ | i
      · injection ho with ho
        subst ho
        have e0 := gF L hs10 0 (by decide) hi
        rw [e0] at H
        refine wpOp_step rfl (fun K hK => ?_)
        go_simp
        refine hK _ _ ⟨_, _, _, _, _, _, _, rfl, ?_⟩
        simp only [hG 0 _ (by decide)]
        exact R3S.st0 H
      · injection ho with ho
        subst ho
        have e1 := gF L hs10 1 (by decide) hi
        rw [e1] at H
        refine wpOp_step rfl (fun K hK => ?_)
        go_simp
        refine hK _ _ ⟨_, _, _, _, _, _, _, rfl, ?_⟩
        simp only [hG 1 _ (by decide)]
        exact R3S.st1 H
      · injection ho with ho
        subst ho
        have c1 := H.nb.c1
        refine wpOp_step rfl (fun K hK => ?_)
        go_simp
        refine hK _ _ ⟨_, _, _, _, _, _, _, rfl, ?_⟩
        simp only [hG 2 _ (by decide)]
        exact R3S.st2 H
      · injection ho with ho
        subst ho
        have e3 := gF L hs10 3 (by decide) hi
        rw [e3] at H
        have d2 := hdep { on := 2, ground := .data } (by simp) rfl
        obtain rfl := H.h2 d2
        have hmk2 := hmk W2
        refine wpOp_step rfl (fun K hK => ?_)
        go_simp
        refine hK _ _ ⟨_, _, _, _, _, _, _, rfl, ?_⟩
        simp only [hG 3 _ (by decide)]
        exact R3S.st3 H
      · injection ho with ho
        subst ho
        have e4 := gF L hs10 4 (by decide) hi
        rw [e4] at H
        refine wpOp_step rfl (fun K hK => ?_)
        go_simp
        refine hK _ _ ⟨_, _, _, _, _, _, _, rfl, ?_⟩
        simp only [hG 4 _ (by decide)]
        exact R3S.st4 H
      · injection ho with ho
        subst ho
        have e5 := gF L hs10 5 (by decide) hi
        rw [e5] at H
        refine wpOp_step rfl (fun K hK => ?_)
        go_simp
        refine hK _ _ ⟨_, _, _, _, _, _, _, rfl, ?_⟩
        simp only [hG 5 _ (by decide)]
        exact R3S.st5 H
      · injection ho with ho
        subst ho
        have e6 := gF L hs10 6 (by decide) hi
        rw [e6] at H
        refine wpOp_step rfl (fun K hK => ?_)
        go_simp
        refine hK _ _ ⟨_, _, _, _, _, _, _, rfl, ?_⟩
        simp only [hG 6 _ (by decide)]
        exact R3S.st6 H
      · injection ho with ho
        subst ho
        have e7 := gF L hs10 7 (by decide) hi
        rw [e7] at H
        have d4 := hdep { on := 4, ground := .data } (by simp) rfl
        have d0 := hdep { on := 0, ground := .data } (by simp) rfl
        rw [d4, d0] at H
        obtain ⟨b4, hb4, rfl, B4⟩ := H.h4 rfl
        obtain ⟨b0, hb0, rfl, B0⟩ := H.h0 rfl
        have Bc := B4.c1
        have Bf := B4.frozen 0
        refine wpOp_step rfl (fun K hK => ?_)
        go_simp
        refine hK _ _ ⟨_, _, _, _, _, _, _, rfl, ?_⟩
        simp only [hG 7 _ (by decide), d4, d0]
        exact R3S.st7 H hb4 B4
      · injection ho with ho
        subst ho
        have e8 := gF L hs10 8 (by decide) hi
        rw [e8] at H
        have d5 := hdep { on := 5, ground := .data } (by simp) rfl
        have d1 := hdep { on := 1, ground := .data } (by simp) rfl
        rw [d5, d1] at H
        obtain ⟨b5, hb5, rfl, B5⟩ := H.h5 rfl
        obtain ⟨b1, hb1, rfl, B1⟩ := H.h1 rfl
        have Bc := B5.c1
        have Bf := B5.frozen 0
        refine wpOp_step rfl (fun K hK => ?_)
        go_simp
        refine hK _ _ ⟨_, _, _, _, _, _, _, rfl, ?_⟩
        simp only [hG 8 _ (by decide), d5, d1]
        exact R3S.st8 H hb5 B5
      · injection ho with ho
        subst ho
        have e9 := gF L hs10 9 (by decide) hi
        rw [e9] at H
        have d6 := hdep { on := 6, ground := .data } (by simp) rfl
        have d3 := hdep { on := 3, ground := .data } (by simp) rfl
        rw [d6, d3] at H
        obtain ⟨b6, hb6, rfl, B6⟩ := H.h6 rfl
        obtain ⟨b3, hb3, rfl, B3⟩ := H.h3 rfl
        have Bc := B6.c1
        have Bf := B6.frozen 0
        refine wpOp_step rfl (fun K hK => ?_)
        go_simp
        refine hK _ _ ⟨_, _, _, _, _, _, _, rfl, ?_⟩
        simp only [hG 9 _ (by decide), d6, d3]
        exact R3S.st9 H hb6 B6
      · omega
    · intro L a W2 hs hI hall
      obtain ⟨s3, s4, s5, s10, s11, s12, s13, rfl, H⟩ := hI
      rw [hall 0 (by decide), hall 1 (by decide), hall 2 (by decide), hall 3 (by decide), hall 4 (by decide), hall 5 (by decide), hall 6 (by decide), hall 7 (by decide), hall 8 (by decide), hall 9 (by decide)] at H
      obtain ⟨b0, hb0, rfl, B0⟩ := H.h0 rfl
      obtain ⟨b1, hb1, rfl, B1⟩ := H.h1 rfl
      obtain rfl := H.h2 rfl
      obtain ⟨b3, hb3, rfl, B3⟩ := H.h3 rfl
      obtain ⟨b4, hb4, rfl, B4⟩ := H.h4 rfl
      obtain ⟨b5, hb5, rfl, B5⟩ := H.h5 rfl
      obtain ⟨b6, hb6, rfl, B6⟩ := H.h6 rfl
      have hlb : LB n w.heap.size b5 b4 b6 b3 b0 w W2 0 (some ⟨b1, 0, none⟩) 0 [] := ⟨H.bel, H.nb, B5, ⟨⟨_, _, rfl⟩, B1.own (Nat.le_of_lt hb1) rfl (by simp [maxLen]), by simp⟩, rfl, by simp, by simp, B6, B3, B4, B0, fun q hq => by
        have : b1 = q := by simpa [Value.ownBlock] using hq
        subst this
        exact B1.ne B6 (.inr (by simp))⟩
      have cn := H.nb.c1
      have hbn : b3 ≠ w.heap.size := by omega
      have Hlb := Lib.hid hlb
      clear H B0 B1 B3 B4 B5 B6 hlb hall
      unfold tm3
      go_wp2_with fail
      clear cn
      go_loopw [15] (fun q wr => ∃ (k : Nat) (A : Option Addr) (c : Nat) (gs : List Nat), k ≤ n ∧ q = .int .i64 (k : Int) ∧ LB n w.heap.size b5 b4 b6 b3 b0 w wr k A c gs) (fun q _ => n - (intOf q).toNat)
      case atStart => exact ⟨0, _, _, _, by omega, rfl, Hlb.out⟩
      case round =>
        obtain ⟨k, A, c, gs, hk, rfl, hlb⟩ := hrel
        clear Hlb
        by_cases hlt : k < n
        · have cm := hlb.mb.c1
          have cf := hlb.mb.frozen 0
          have cn := hlb.nb.c1
          have hmk : ∀ W : World, _ := fun W => run_make_row' (P := Try.prog) (w := W) 24 3 (.int .i64 0) 8 Try.underlying24 info_int rfl .i64 .i64 n (by omega) (by omega)
          rw [made_list, List.toArray_replicate] at hmk
          have hmk2 := hmk wr.drew
          have hA0 := World.new_ne wr ⟨b5, 0, none⟩ cm
          have cm1 := (hlb.mb.alloc (.cells (Array.replicate n (.int .i64 0)) 3)).c1
          have cm2 := ((hlb.mb.alloc (.cells (Array.replicate n (.int .i64 0)) 3)).alloc (.cells #[.slice (some ⟨wr.heap.size, 0, none⟩) n n] 24)).c1
          have cn1 := (hlb.nb.alloc (.cells (Array.replicate n (.int .i64 0)) 3)).c1
          have Hlb := Lib.hid hlb
          have hal := bl_alloc (bl_alloc (Below.refl wr.heap.size wr) (.cells (Array.replicate n (.int .i64 0)) 3)) (.cells #[.slice (some ⟨wr.heap.size, 0, none⟩) n n] 24)
          have OV := Lib.hid (show OwV w.heap.size ((wr.alloc (.cells (Array.replicate n (.int .i64 0)) 3)).alloc (.cells #[.slice (some ⟨wr.heap.size, 0, none⟩) n n] 24)).drew (.slice A k c) (gs.map (rowV n)) from hlb.mo.bel (bl_drew hal))
          have R1 := Lib.hid (show Rd ((wr.alloc (.cells (Array.replicate n (.int .i64 0)) 3)).alloc (.cells #[.slice (some ⟨wr.heap.size, 0, none⟩) n n] 24)).drew 1 (some ⟨wr.heap.size + 1, 0, none⟩) 1 [rowV n wr.heap.size] from (Blk.new2 wr (.cells (Array.replicate n (.int .i64 0)) 3) 24 [.slice (some ⟨wr.heap.size, 0, none⟩) n n]).drew.rd rfl)
          have h1c := Lib.hid (show ∀ u ∈ [rowV n wr.heap.size], u.oneCell' = true by intro u hu; simp at hu; subst hu; rfl)
          have hszW : w.heap.size ≤ ((wr.alloc (.cells (Array.replicate n (.int .i64 0)) 3)).alloc (.cells #[.slice (some ⟨wr.heap.size, 0, none⟩) n n] 24)).drew.heap.size := Nat.le_trans hlb.bel.size hal.size
          have hgl : (gs.map (rowV n)).length ≤ 1048576 := by rw [List.length_map, hlb.gl]; omega
          have h1l : [rowV n wr.heap.size].length ≤ 1048576 := by simp
          have hb5' : w.heap.size ≤ b5 := Nat.le_of_lt hb5
          have hszr : wr.heap.size ≤ ((wr.alloc (.cells (Array.replicate n (.int .i64 0)) 3)).alloc (.cells #[.slice (some ⟨wr.heap.size, 0, none⟩) n n] 24)).drew.heap.size := hal.size
          clear hlb hal hmk
          go_wp2_with fail
          go_region_law
            ((refine step_apsV' (W := ((wr.alloc (.cells (Array.replicate n (.int .i64 0)) 3)).alloc (.cells #[.slice (some ⟨wr.heap.size, 0, none⟩) n n] 24)).drew) (by rfl) (.tmp 17) (.tmp 20) (by rfl) w.heap.size _ (gs.map (rowV n)) [rowV n wr.heap.size] (some ⟨wr.heap.size + 1, 0, none⟩) 1 1 (by rfl) (by rfl) OV.out R1.out h1c.out hszW hgl h1l ?_; intro A' L' c' w1 hL' o' g' v'; have R := Hlb.out.step hb5' o' ⟨g'.os, g'.tape, g'.output, g'.size, g'.block⟩ (v'.imp id (fun e q hq => by rw [hq] at e; injection e with e; omega)); have R2 := R.1.c1; have R3 := R.1.frozen 0; have R4 := Lib.hid R.2; have hLk : L' = k + 1 := (by have := hL'.out; simp [Hlb.out.gl] at this; exact this); subst hLk; clear R o' g' v'))
          all_goals
            go_wp2_with fail
            go_roundw
            case rel => exact ⟨k + 1, A', c', _, by omega, by go_num, R4.out⟩
            case measure => simp [intOf]; omega
        · obtain rfl : k = n := by omega
          have co := hlb.ob.c1
          obtain ⟨K, hla⟩ := hlb.la h1 h4 hb3 hb5 hb4 hb6 hb0
          have himl := imL_eq h1 h4
          have he := Lib.hid (show altL (k : Int) = imL k by rw [altL, hx, himl.1]; rfl)
          have hcall := rest25_any _ K w (k * k) 0 0 (List.replicate (k * k) 0) (List.replicate k 0) [] _ (by show 0 + k * k = k * k; omega) (by omega) (by omega) hla (by
            show ([] ++ imL k).length ≤ 1000
            rw [himl.1]; have := himl.2; simp; omega)
          have Hcall := Lib.hid (show Calls Try.prog 132 (#[.int .i64 0, .int .i64 0, .pointer (some ⟨w.heap.size, 0, none⟩), .pointer (some ⟨b5, 0, none⟩), .pointer (some ⟨b4, 0, none⟩), .pointer (some ⟨b6, 0, none⟩), .pointer (some ⟨wr.heap.size, 0, none⟩)]) (wr.alloc (.cells #[.func (.func 132) #[] #[.pointer (some ⟨w.heap.size, 0, none⟩), .pointer (some ⟨b5, 0, none⟩), .pointer (some ⟨b4, 0, none⟩), .pointer (some ⟨b6, 0, none⟩), .pointer (some ⟨wr.heap.size, 0, none⟩)]] 145)) fun e w' => e = .returned (.tuple #[]) ∧ ∃ F', LA (pL k w.heap.size b3 b4 b5 b6 wr.heap.size (wr.heap.size + 1) A c gs) w w' F' (List.replicate k 0) (altL (k : Int)) from by rw [he.out]; exact hcall.mono fun e w' ⟨q1, F', q2, _⟩ => ⟨q1, F', q2⟩)
          have hwz := hlb.bel.size
          clear hcall hla hlb co himl
          go_wp2_with (go_at_call 132; go_must (refine Hcall.out.mono ?_; rintro e w5 ⟨rfl, F5, hL5⟩; obtain ⟨A5, L5, c5, o5, n5, m5⟩ := hL5.ob; have co5 : w5.cell? ⟨b4, 0, none⟩ = some (.slice A5 L5 c5) := o5.c1; have Hb5 := Lib.hid hL5.bel; have N5 := Lib.hid n5; clear hL5 o5 n5 m5))
          go_ret
          exact ⟨_, rfl, N5.out.inS (by show w.heap.size ≤ wr.heap.size + 1; omega), Hb5.out⟩
    · exact ⟨_, _, _, _, _, _, _, rfl, ⟨bl_drew (bl_alloc (Below.refl _ _) _), (Blk.new w 3 [.int .i64 (n : Int)]).drew, fun e => by simp at e, fun e => by simp at e, fun e => by simp at e, fun e => by simp at e, fun e => by simp at e, fun e => by simp at e, fun e => by simp at e, fun e => by simp at e, fun e => by simp at e, fun e => by simp at e⟩⟩
end Go.Proofs.Ytdcjhfmkkcakhaa

/-
  Slices of the call's own that lie between two bounds of the heap, kept over calls and over writes to other blocks; the laws' marks (markS) and the reading of marks (heldS) for each kind of element; no statement is proved here; lists of at most 1048576.
-/
import Derived.Test.YtoehmocamaamcaaOwn
import Derived.Test.YtoehmocamaamcaaInts
import Derived.Maps.AppendAt
namespace Go.Proofs.Ytoehmocamaamcaa
open Go.ChangeShapes Go.WideShapes Go.ChangeAt Go.RowKit Go.Deep
set_option linter.unusedVariables false

theorem bl_grown' {B : Nat} {a w w' : World} {v : Value} (h : Below B a w) (hg : w.grownBy w' v.ownBlock) (hB : B ≤ w.heap.size) (hr : ∀ k, v.ownBlock = some k → B ≤ k) : Below B a w' := h.grown hg hB hr
theorem Blk.far' {w w' : World} {g : Nat} {E : TypeId} {xs : List Value} {v : Value} (h : Blk w g E xs) (hg : w.grownBy w' v.ownBlock) (hne : ∀ k, v.ownBlock = some k → g ≠ k) : Blk w' g E xs :=
  (hg.block g h.lt (fun e => hne g e.symm rfl)).trans h
theorem bl_size2 {w X w1 : World} (h : Below w.heap.size w X) (h1 : Below X.heap.size X w1) : w.heap.size ≤ w1.heap.size := Nat.le_trans h.size h1.size
theorem bl_start {w X : World} (h : Below w.heap.size w X) : w.heap.size ≤ X.heap.size := h.size
theorem grown_set {w wr : World} {g i : Nat} {u : Value} (h : w.grownBy wr (some g)) : w.grownBy (wr.setCell ⟨g, i, none⟩ u) (some g) :=
  ⟨h.os, h.tape, h.output, by simpa using h.size, fun k hk hne => (Below.heap_setCell wr ⟨g, i, none⟩ u k (by intro e; exact hne (by rw [e]))).trans (h.block k hk hne)⟩
theorem grown_refl (w : World) (row : Option Nat) : w.grownBy w row := ⟨rfl, rfl, rfl, Nat.le_refl _, fun _ _ _ => rfl⟩
def mks {α : Type} (f : Int → α) (s k : Int) (n : Nat) : List α := (List.range n).map fun (i : Nat) => f (k + s * i)
theorem mks_len {α : Type} (f : Int → α) (s k : Int) (n : Nat) : (mks f s k n).length = n := by simp [mks]
theorem mks_get {α : Type} (f : Int → α) (s k : Int) (n i : Nat) (h : i < n) : (mks f s k n)[i]? = some (f (k + s * i)) := by simp [mks, h]
theorem mks_succ {α : Type} (f : Int → α) (s k : Int) (n : Nat) : mks f s k (n + 1) = mks f s k n ++ [f (k + s * n)] := by simp [mks, List.range_succ]
theorem mks_mem {α : Type} {f : Int → α} {s k : Int} {n : Nat} {x : α} (h : x ∈ mks f s k n) : ∃ i : Nat, i < n ∧ x = f (k + s * i) := by
  obtain ⟨i, hi, rfl⟩ := List.mem_map.1 h
  exact ⟨i, List.mem_range.1 hi, rfl⟩
def mfI (q : Int) : Int := q
def mfC (q : Int) : Int × Int := (q, q + 1)
def mfD (q : Int) : Int × Int × Bool := (q, q + 1, (q + 1 + 1) % 3 == 0)
def mfT (q : Int) : Int × Int × Int := (q, q + 1, q + 1 + 1)

def InI (lo hi : Nat) (w : World) (v : Value) (l : List Int) : Prop := OwI lo w v l ∧ ∀ k, v.ownBlock = some k → k < hi
section
variable {lo hi lo' : Nat} {w w' : World} {v : Value} {l : List Int}
theorem InI.rng (h : InI lo hi w v l) : ∀ k, v.ownBlock = some k → lo ≤ k ∧ k < hi := fun k hk => ⟨(h.1.2.1.lt k hk).1, h.2 k hk⟩
theorem InI.lt (h : InI lo hi w v l) : ∀ k, v.ownBlock = some k → k < w.heap.size := fun k hk => (h.1.2.1.lt k hk).2
theorem InI.bel (h : InI lo hi w v l) (hb : Below w.heap.size w w') : InI lo hi w' v l := ⟨⟨h.1.1, ownsRow_bel h.1.2.1 hb, h.1.2.2⟩, h.2⟩
theorem InI.far (h : InI lo hi w v l) {u : Value} (hg : w.grownBy w' u.ownBlock) (hd : ∀ k, u.ownBlock = some k → k < lo ∨ hi ≤ k) : InI lo hi w' v l :=
  ⟨⟨h.1.1, h.1.2.1.kept hg (by
    cases hv : v.ownBlock with
    | none => exact .inl rfl
    | some k => exact .inr (fun e => by have h1 := h.rng k hv; have := hd k e.symm; omega)), h.1.2.2⟩, h.2⟩
theorem InI.rd {A : Option Addr} {n c : Nat} (h : InI lo hi w (.slice A n c) l) : RdI w A l := h.1.rd
theorem InI.len {A : Option Addr} {n c : Nat} (h : InI lo hi w (.slice A n c) l) : n = l.length := by obtain ⟨⟨A', c', e⟩, _⟩ := h.1; injection e
theorem OwI.in_ (h : OwI lo w v l) (hl : lo' ≤ lo) : InI lo' w.heap.size w v l := ⟨⟨h.1, ownsRow_mono h.2.1 hl, h.2.2⟩, fun k hk => (h.2.1.lt k hk).2⟩
theorem OwI.set' (h : OwI lo w v l) {p : Addr} (hp : p.block < lo) (u : Value) : OwI lo (w.setCell p u) v l := ⟨h.1, ownsRow_setCell_below h.2.1 hp u, h.2.2⟩
theorem OwI.alloc' (h : OwI lo w v l) (o : Obj) : OwI lo (w.alloc o) v l := ⟨h.1, h.2.1.alloc o, h.2.2⟩
theorem OwI.form (h : OwI lo w v l) : ∃ A c, v = .slice A l.length c := h.1
end
theorem OwI.blk' {B : Nat} {w : World} {v : Value} {l : List Int} (h : OwI B w v l) (hl : l ≠ []) :
    ∃ g cap rest, v = .slice (some ⟨g, 0, none⟩) l.length cap ∧ B ≤ g ∧ l.length ≤ cap ∧ cap ≤ maxLen ∧ ((l.map cI) ++ rest).length = cap * 1 ∧ Blk w g 3 ((l.map cI) ++ rest) := by
  rcases h.2.1.2 with ⟨_, h0⟩ | ⟨g, cap, cur, hv, hb, hg, hn, hm, hs, ht⟩
  · exact absurd (List.eq_nil_of_length_eq_zero h0) hl
  · have e : (l.map cI) ++ cur.toList.drop (l.length * 1) = cur.toList := by rw [← ht]; exact List.take_append_drop _ _
    refine ⟨g, cap, cur.toList.drop (l.length * 1), hv, hb, hn, hm, ?_, ?_⟩
    · rw [e]; simpa using hs
    · rw [e]; exact hg
theorem Blk.ownI' {B g cap : Nat} {w : World} {l : List Int} {rest : List Value} (h : Blk w g 3 ((l.map cI) ++ rest)) (hB : B ≤ g) (hn : l.length ≤ cap) (hm : cap ≤ maxLen) (hs : ((l.map cI) ++ rest).length = cap * 1) (hg : ∀ x ∈ l, I64 x) :
    OwI B w (.slice (some ⟨g, 0, none⟩) l.length cap) l := by
  have e : (l.map cI).length = l.length * 1 := by simp
  exact ⟨⟨_, _, rfl⟩, ⟨e, .inr ⟨g, cap, _, rfl, hB, h, hn, hm, by simpa using hs, by rw [← e]; simp⟩⟩, hg⟩
theorem mark_stepI {wr : World} {g j : Nat} {l : List Int} {rest : List Value} {k : Int} (hj : j < l.length) (h : Blk wr g 3 (((mks mfI 1 k j).map cI) ++ ((l.drop j).map cI) ++ rest)) :
    Blk (wr.setCell ⟨g, j, none⟩ (.int .i64 (k + 1 * j))) g 3 (((mks mfI 1 k (j + 1)).map cI) ++ ((l.drop (j + 1)).map cI) ++ rest) := by
  have := (h.set_ (j) (.int .i64 (k + 1 * j)))
  have hl : (((mks mfI 1 k j).map cI)).length = j := by rw [List.length_map, mks_len]
  have hd : l.drop j = l[j] :: l.drop (j + 1) := List.drop_eq_getElem_cons hj
  have e : ((((mks mfI 1 k j).map cI) ++ ((l.drop j).map cI) ++ rest).set (j) (Value.int .i64 (k + 1 * j))) = ((mks mfI 1 k (j + 1)).map cI) ++ ((l.drop (j + 1)).map cI) ++ rest := by
    rw [List.append_assoc, List.set_append_right _ _ (by omega), hl, show j - j = 0 by omega, hd, mks_succ, List.map_append, List.append_assoc, List.append_assoc]
    rfl
  rw [e] at this
  exact this
set_option maxHeartbeats 1000000 in
theorem markIntS_in (lo hi : Nat) (A : Option Addr) (n c : Nat) (l : List Int) (k : Int) (w : World) (hn : n ≤ 1048576) (h1 : 0 ≤ k) (h2 : k ≤ 4194304) (h : InI lo hi w (.slice A n c) l) :
    Calls Try.prog 73 #[.slice A n c, .int .i64 k] w fun e w' => e = .returned (.int .i64 (k + 1 * n)) ∧ InI lo hi w' (.slice A n c) (mks mfI 1 k n) ∧ w.grownBy w' (Value.slice A n c).ownBlock := by
  have hnl := h.len
  have hhi := Lib.hid h.2
  by_cases h0 : l = []
  · have hz : n = 0 := by rw [hnl, h0]; rfl
    clear hnl
    subst hz
    subst h0
    have h' := Lib.hid h
    clear h
    go_enter Try.func73, Try.ntmps73
    go_wp2
    refine wp_loop_rounds 1 ?_
    rw [rounds_succ]
    go_wp2
    go_ret
    exact ⟨ret_int (by omega), h'.out, grown_refl _ _⟩
  · obtain ⟨g, cap, rest, hv, hBg, hnc, hcm, hs, hblk⟩ := h.1.blk' h0
    injection hv with e1 e2 e3
    subst e1
    subst e2
    subst e3
    have hs' := Lib.hid hs
    clear h hs hnl
    have N := hblk
    go_enter Try.func73, Try.ntmps73
    go_wp2
    go_loopw [1, 5] (fun q i wr => ∃ j : Nat, j ≤ l.length ∧ i = .int .i64 j ∧ q = .int .i64 (k + 1 * j) ∧ Blk wr g 3 (((mks mfI 1 k j).map cI) ++ ((l.drop j).map cI) ++ rest) ∧ w.grownBy wr (some g)) (fun _ i _ => l.length - (intOf i).toNat)
    case atStart => exact ⟨0, by omega, rfl, by go_num, by simpa [mks] using N, grown_refl _ _⟩
    case round =>
      obtain ⟨j, hj, rfl, rfl, hb, hbl⟩ := hrel
      clear N hblk
      by_cases hlt : j < l.length
      · have hln : j + (1 - 1) < (((mks mfI 1 k j).map cI) ++ ((l.drop j).map cI) ++ rest).length := by
          rw [List.length_append, List.length_append, List.length_map, List.length_map, mks_len, List.length_drop]; omega
        obtain ⟨u0, hu0⟩ : ∃ u, wr.cell? ⟨g, j, none⟩ = some u := ⟨_, (hb.cell _).trans (List.getElem?_eq_getElem (by omega))⟩
        have f0 := hb.frozen (j)
        have H := Lib.hid (mark_stepI (k := k) hlt hb)
        have Hb := Lib.hid hbl
        clear hb hbl hln
        go_wp2
        go_roundw
        case rel => exact ⟨j + 1, by omega, by go_num, by go_num, by have := H.out; rw [Int.one_mul] at this; exact this, (grown_set Hb.out)⟩
        case measure => simp [intOf]; omega
      · have hjn : j = l.length := by omega
        subst hjn
        have hb2 : Blk wr g 3 (((mks mfI 1 k l.length).map cI) ++ rest) := by simpa using hb
        have H := Lib.hid hb2
        clear hb hb2
        go_wp2
        go_ret
        refine ⟨rfl, ?_, hbl⟩
        have := H.out.ownI' (B := lo) (cap := c) hBg (by rw [mks_len]; exact hnc) hcm (by rw [← hs'.out, List.length_append, List.length_append, List.length_map, List.length_map, mks_len]) (by intro x hx; obtain ⟨i, hi, rfl⟩ := mks_mem hx; exact ⟨by unfold mfI; omega, by unfold mfI; omega⟩)
        rw [mks_len] at this
        exact ⟨this, hhi.out⟩
set_option maxHeartbeats 1000000 in
theorem heldIntS_in (A : Option Addr) (c n : Nat) (k : Int) (w : World) (hn : n ≤ 1048576) (h1 : 0 ≤ k) (h2 : k ≤ 4194304) (hr : RdI w A (mks mfI 1 k n)) :
    Calls Try.prog 80 #[.slice A n c, .int .i64 k] w fun e w' => e = .returned (.int .i64 (k + 1 * n)) ∧ w = w' := by
  have hlen := mks_len mfI 1 k n
  go_enter Try.func80, Try.ntmps80
  go_wp2
  go_loop [1, 5] (fun q i => ∃ j : Nat, j ≤ n ∧ i = .int .i64 j ∧ q = .int .i64 (k + 1 * j)) (fun _ i => n - (intOf i).toNat)
  case atStart => exact ⟨0, by omega, rfl, by go_num⟩
  case round =>
    obtain ⟨j, hj, rfl, rfl⟩ := hrel
    by_cases hlt : j < n
    · obtain ⟨b, off, x, hA, hbl, hx, hd, _, hc0⟩ := hr.at_ (k := j) (by omega)
      rw [mks_get mfI 1 k n j hlt] at hx
      injection hx with hx
      unfold mfI at hx
      subst hx
      subst hA
      clear hr hd hlen
      go_wp2
      go_round
      case rel => exact ⟨j + 1, by omega, by go_num, by go_num⟩
      case measure => simp [intOf]; omega
    · have hjn : j = n := by omega
      subst hjn
      clear hr
      go_wp2
      go_ret
      exact ⟨rfl, rfl⟩
def InC (lo hi : Nat) (w : World) (v : Value) (l : List (Int × Int)) : Prop := OwC lo w v l ∧ ∀ k, v.ownBlock = some k → k < hi
section
variable {lo hi lo' : Nat} {w w' : World} {v : Value} {l : List (Int × Int)}
theorem InC.rng (h : InC lo hi w v l) : ∀ k, v.ownBlock = some k → lo ≤ k ∧ k < hi := fun k hk => ⟨(h.1.2.1.lt k hk).1, h.2 k hk⟩
theorem InC.lt (h : InC lo hi w v l) : ∀ k, v.ownBlock = some k → k < w.heap.size := fun k hk => (h.1.2.1.lt k hk).2
theorem InC.bel (h : InC lo hi w v l) (hb : Below w.heap.size w w') : InC lo hi w' v l := ⟨⟨h.1.1, ownsRow_bel h.1.2.1 hb, h.1.2.2⟩, h.2⟩
theorem InC.far (h : InC lo hi w v l) {u : Value} (hg : w.grownBy w' u.ownBlock) (hd : ∀ k, u.ownBlock = some k → k < lo ∨ hi ≤ k) : InC lo hi w' v l :=
  ⟨⟨h.1.1, h.1.2.1.kept hg (by
    cases hv : v.ownBlock with
    | none => exact .inl rfl
    | some k => exact .inr (fun e => by have h1 := h.rng k hv; have := hd k e.symm; omega)), h.1.2.2⟩, h.2⟩
theorem InC.rd {A : Option Addr} {n c : Nat} (h : InC lo hi w (.slice A n c) l) : RdC w A l := h.1.rd
theorem InC.len {A : Option Addr} {n c : Nat} (h : InC lo hi w (.slice A n c) l) : n = l.length := by obtain ⟨⟨A', c', e⟩, _⟩ := h.1; injection e
theorem OwC.in_ (h : OwC lo w v l) (hl : lo' ≤ lo) : InC lo' w.heap.size w v l := ⟨⟨h.1, ownsRow_mono h.2.1 hl, h.2.2⟩, fun k hk => (h.2.1.lt k hk).2⟩
theorem OwC.set' (h : OwC lo w v l) {p : Addr} (hp : p.block < lo) (u : Value) : OwC lo (w.setCell p u) v l := ⟨h.1, ownsRow_setCell_below h.2.1 hp u, h.2.2⟩
theorem OwC.alloc' (h : OwC lo w v l) (o : Obj) : OwC lo (w.alloc o) v l := ⟨h.1, h.2.1.alloc o, h.2.2⟩
theorem OwC.form (h : OwC lo w v l) : ∃ A c, v = .slice A l.length c := h.1
end
theorem OwC.blk' {B : Nat} {w : World} {v : Value} {l : List (Int × Int)} (h : OwC B w v l) (hl : l ≠ []) :
    ∃ g cap rest, v = .slice (some ⟨g, 0, none⟩) l.length cap ∧ B ≤ g ∧ l.length ≤ cap ∧ cap ≤ maxLen ∧ ((l.flatMap cC) ++ rest).length = cap * 2 ∧ Blk w g 62 ((l.flatMap cC) ++ rest) := by
  rcases h.2.1.2 with ⟨_, h0⟩ | ⟨g, cap, cur, hv, hb, hg, hn, hm, hs, ht⟩
  · exact absurd (List.eq_nil_of_length_eq_zero h0) hl
  · have e : (l.flatMap cC) ++ cur.toList.drop (l.length * 2) = cur.toList := by rw [← ht]; exact List.take_append_drop _ _
    refine ⟨g, cap, cur.toList.drop (l.length * 2), hv, hb, hn, hm, ?_, ?_⟩
    · rw [e]; simpa using hs
    · rw [e]; exact hg
theorem Blk.ownC' {B g cap : Nat} {w : World} {l : List (Int × Int)} {rest : List Value} (h : Blk w g 62 ((l.flatMap cC) ++ rest)) (hB : B ≤ g) (hn : l.length ≤ cap) (hm : cap ≤ maxLen) (hs : ((l.flatMap cC) ++ rest).length = cap * 2) (hg : ∀ x ∈ l, I64 x.1 ∧ I64 x.2) :
    OwC B w (.slice (some ⟨g, 0, none⟩) l.length cap) l := by
  have e : (l.flatMap cC).length = l.length * 2 := flatMap_len cC 2 (fun _ => rfl) l
  exact ⟨⟨_, _, rfl⟩, ⟨e, .inr ⟨g, cap, _, rfl, hB, h, hn, hm, by simpa using hs, by rw [← e]; simp⟩⟩, hg⟩
def InD (lo hi : Nat) (w : World) (v : Value) (l : List (Int × Int × Bool)) : Prop := OwD lo w v l ∧ ∀ k, v.ownBlock = some k → k < hi
section
variable {lo hi lo' : Nat} {w w' : World} {v : Value} {l : List (Int × Int × Bool)}
theorem InD.rng (h : InD lo hi w v l) : ∀ k, v.ownBlock = some k → lo ≤ k ∧ k < hi := fun k hk => ⟨(h.1.2.1.lt k hk).1, h.2 k hk⟩
theorem InD.lt (h : InD lo hi w v l) : ∀ k, v.ownBlock = some k → k < w.heap.size := fun k hk => (h.1.2.1.lt k hk).2
theorem InD.bel (h : InD lo hi w v l) (hb : Below w.heap.size w w') : InD lo hi w' v l := ⟨⟨h.1.1, ownsRow_bel h.1.2.1 hb, h.1.2.2⟩, h.2⟩
theorem InD.far (h : InD lo hi w v l) {u : Value} (hg : w.grownBy w' u.ownBlock) (hd : ∀ k, u.ownBlock = some k → k < lo ∨ hi ≤ k) : InD lo hi w' v l :=
  ⟨⟨h.1.1, h.1.2.1.kept hg (by
    cases hv : v.ownBlock with
    | none => exact .inl rfl
    | some k => exact .inr (fun e => by have h1 := h.rng k hv; have := hd k e.symm; omega)), h.1.2.2⟩, h.2⟩
theorem InD.rd {A : Option Addr} {n c : Nat} (h : InD lo hi w (.slice A n c) l) : RdD w A l := h.1.rd
theorem InD.len {A : Option Addr} {n c : Nat} (h : InD lo hi w (.slice A n c) l) : n = l.length := by obtain ⟨⟨A', c', e⟩, _⟩ := h.1; injection e
theorem OwD.in_ (h : OwD lo w v l) (hl : lo' ≤ lo) : InD lo' w.heap.size w v l := ⟨⟨h.1, ownsRow_mono h.2.1 hl, h.2.2⟩, fun k hk => (h.2.1.lt k hk).2⟩
theorem OwD.set' (h : OwD lo w v l) {p : Addr} (hp : p.block < lo) (u : Value) : OwD lo (w.setCell p u) v l := ⟨h.1, ownsRow_setCell_below h.2.1 hp u, h.2.2⟩
theorem OwD.alloc' (h : OwD lo w v l) (o : Obj) : OwD lo (w.alloc o) v l := ⟨h.1, h.2.1.alloc o, h.2.2⟩
theorem OwD.form (h : OwD lo w v l) : ∃ A c, v = .slice A l.length c := h.1
end
theorem OwD.blk' {B : Nat} {w : World} {v : Value} {l : List (Int × Int × Bool)} (h : OwD B w v l) (hl : l ≠ []) :
    ∃ g cap rest, v = .slice (some ⟨g, 0, none⟩) l.length cap ∧ B ≤ g ∧ l.length ≤ cap ∧ cap ≤ maxLen ∧ ((l.flatMap cD) ++ rest).length = cap * 3 ∧ Blk w g 45 ((l.flatMap cD) ++ rest) := by
  rcases h.2.1.2 with ⟨_, h0⟩ | ⟨g, cap, cur, hv, hb, hg, hn, hm, hs, ht⟩
  · exact absurd (List.eq_nil_of_length_eq_zero h0) hl
  · have e : (l.flatMap cD) ++ cur.toList.drop (l.length * 3) = cur.toList := by rw [← ht]; exact List.take_append_drop _ _
    refine ⟨g, cap, cur.toList.drop (l.length * 3), hv, hb, hn, hm, ?_, ?_⟩
    · rw [e]; simpa using hs
    · rw [e]; exact hg
theorem Blk.ownD' {B g cap : Nat} {w : World} {l : List (Int × Int × Bool)} {rest : List Value} (h : Blk w g 45 ((l.flatMap cD) ++ rest)) (hB : B ≤ g) (hn : l.length ≤ cap) (hm : cap ≤ maxLen) (hs : ((l.flatMap cD) ++ rest).length = cap * 3) (hg : ∀ x ∈ l, I64 x.1 ∧ I64 x.2.1) :
    OwD B w (.slice (some ⟨g, 0, none⟩) l.length cap) l := by
  have e : (l.flatMap cD).length = l.length * 3 := flatMap_len cD 3 (fun _ => rfl) l
  exact ⟨⟨_, _, rfl⟩, ⟨e, .inr ⟨g, cap, _, rfl, hB, h, hn, hm, by simpa using hs, by rw [← e]; simp⟩⟩, hg⟩
theorem mark_stepD {wr : World} {g j : Nat} {l : List (Int × Int × Bool)} {rest : List Value} {k : Int} (hj : j < l.length) (h : Blk wr g 45 (((mks mfD 3 k j).flatMap cD) ++ ((l.drop j).flatMap cD) ++ rest)) :
    Blk (((wr.setCell ⟨g, j * 3, none⟩ (.int .i64 (k + 3 * j))).setCell ⟨g, j * 3 + 1, none⟩ (.int .i64 (k + 3 * j + 1))).setCell ⟨g, j * 3 + 2, none⟩ (.bool ((k + 3 * j + 1 + 1) % 3 == 0))) g 45 (((mks mfD 3 k (j + 1)).flatMap cD) ++ ((l.drop (j + 1)).flatMap cD) ++ rest) := by
  have := (((h.set_ (j * 3) (.int .i64 (k + 3 * j))).set_ (j * 3 + 1) (.int .i64 (k + 3 * j + 1))).set_ (j * 3 + 2) (.bool ((k + 3 * j + 1 + 1) % 3 == 0)))
  have hl : (((mks mfD 3 k j).flatMap cD)).length = j * 3 := by rw [flatMap_len cD 3 (fun _ => rfl), mks_len]
  have hd : l.drop j = l[j] :: l.drop (j + 1) := List.drop_eq_getElem_cons hj
  have e : ((((((mks mfD 3 k j).flatMap cD) ++ ((l.drop j).flatMap cD) ++ rest).set (j * 3) (Value.int .i64 (k + 3 * j))).set (j * 3 + 1) (Value.int .i64 (k + 3 * j + 1))).set (j * 3 + 2) (Value.bool ((k + 3 * j + 1 + 1) % 3 == 0))) = ((mks mfD 3 k (j + 1)).flatMap cD) ++ ((l.drop (j + 1)).flatMap cD) ++ rest := by
    rw [List.append_assoc, List.set_append_right _ _ (by omega), List.set_append_right _ _ (by omega), List.set_append_right _ _ (by omega), hl, show j * 3 - j * 3 = 0 by omega, show j * 3 + 1 - j * 3 = 1 by omega, show j * 3 + 2 - j * 3 = 2 by omega, hd, mks_succ, List.flatMap_append, List.append_assoc, List.append_assoc]
    rfl
  rw [e] at this
  exact this
set_option maxHeartbeats 1000000 in
theorem markDominoS_in (lo hi : Nat) (A : Option Addr) (n c : Nat) (l : List (Int × Int × Bool)) (k : Int) (w : World) (hn : n ≤ 1048576) (h1 : 0 ≤ k) (h2 : k ≤ 4194304) (h : InD lo hi w (.slice A n c) l) :
    Calls Try.prog 32 #[.slice A n c, .int .i64 k] w fun e w' => e = .returned (.int .i64 (k + 3 * n)) ∧ InD lo hi w' (.slice A n c) (mks mfD 3 k n) ∧ w.grownBy w' (Value.slice A n c).ownBlock := by
  have hnl := h.len
  have hhi := Lib.hid h.2
  by_cases h0 : l = []
  · have hz : n = 0 := by rw [hnl, h0]; rfl
    clear hnl
    subst hz
    subst h0
    have h' := Lib.hid h
    clear h
    go_enter Try.func32, Try.ntmps32
    go_wp2
    refine wp_loop_rounds 1 ?_
    rw [rounds_succ]
    go_wp2
    go_ret
    exact ⟨ret_int (by omega), h'.out, grown_refl _ _⟩
  · obtain ⟨g, cap, rest, hv, hBg, hnc, hcm, hs, hblk⟩ := h.1.blk' h0
    injection hv with e1 e2 e3
    subst e1
    subst e2
    subst e3
    have hs' := Lib.hid hs
    clear h hs hnl
    have N := hblk
    go_enter Try.func32, Try.ntmps32
    go_wp2
    go_loopw [1, 5] (fun q i wr => ∃ j : Nat, j ≤ l.length ∧ i = .int .i64 j ∧ q = .int .i64 (k + 3 * j) ∧ Blk wr g 45 (((mks mfD 3 k j).flatMap cD) ++ ((l.drop j).flatMap cD) ++ rest) ∧ w.grownBy wr (some g)) (fun _ i _ => l.length - (intOf i).toNat)
    case atStart => exact ⟨0, by omega, rfl, by go_num, by simpa [mks] using N, grown_refl _ _⟩
    case round =>
      obtain ⟨j, hj, rfl, rfl, hb, hbl⟩ := hrel
      clear N hblk
      by_cases hlt : j < l.length
      · have hln : j * 3 + (3 - 1) < (((mks mfD 3 k j).flatMap cD) ++ ((l.drop j).flatMap cD) ++ rest).length := by
          rw [List.length_append, List.length_append, flatMap_len cD 3 (fun _ => rfl), flatMap_len cD 3 (fun _ => rfl), mks_len, List.length_drop]; omega
        obtain ⟨u0, hu0⟩ : ∃ u, wr.cell? ⟨g, j * 3, none⟩ = some u := ⟨_, (hb.cell _).trans (List.getElem?_eq_getElem (by omega))⟩
        obtain ⟨u1, hu1⟩ : ∃ u, wr.cell? ⟨g, j * 3 + 1, none⟩ = some u := ⟨_, (hb.cell _).trans (List.getElem?_eq_getElem (by omega))⟩
        obtain ⟨u2, hu2⟩ : ∃ u, wr.cell? ⟨g, j * 3 + 2, none⟩ = some u := ⟨_, (hb.cell _).trans (List.getElem?_eq_getElem (by omega))⟩
        have f0 := hb.frozen (j * 3)
        have f1 := hb.frozen (j * 3 + 1)
        have f2 := hb.frozen (j * 3 + 2)
        have H := Lib.hid (mark_stepD (k := k) hlt hb)
        have Hb := Lib.hid hbl
        clear hb hbl hln
        go_wp2
        go_roundw
        case rel => exact ⟨j + 1, by omega, by go_num, by go_num, H.out, (grown_set (grown_set (grown_set Hb.out)))⟩
        case measure => simp [intOf]; omega
      · have hjn : j = l.length := by omega
        subst hjn
        have hb2 : Blk wr g 45 (((mks mfD 3 k l.length).flatMap cD) ++ rest) := by simpa using hb
        have H := Lib.hid hb2
        clear hb hb2
        go_wp2
        go_ret
        refine ⟨rfl, ?_, hbl⟩
        have := H.out.ownD' (B := lo) (cap := c) hBg (by rw [mks_len]; exact hnc) hcm (by rw [← hs'.out, List.length_append, List.length_append, flatMap_len cD 3 (fun _ => rfl), flatMap_len cD 3 (fun _ => rfl), mks_len]) (by intro x hx; obtain ⟨i, hi, rfl⟩ := mks_mem hx; exact ⟨⟨by unfold mfD; dsimp only; omega, by unfold mfD; dsimp only; omega⟩, ⟨by unfold mfD; dsimp only; omega, by unfold mfD; dsimp only; omega⟩⟩)
        rw [mks_len] at this
        exact ⟨this, hhi.out⟩
set_option maxHeartbeats 1000000 in
theorem heldDominoS_in (A : Option Addr) (c n : Nat) (k : Int) (w : World) (hn : n ≤ 1048576) (h1 : 0 ≤ k) (h2 : k ≤ 4194304) (hr : RdD w A (mks mfD 3 k n)) :
    Calls Try.prog 33 #[.slice A n c, .int .i64 k] w fun e w' => e = .returned (.int .i64 (k + 3 * n)) ∧ w = w' := by
  have hlen := mks_len mfD 3 k n
  go_enter Try.func33, Try.ntmps33
  go_wp2
  go_loop [1, 5] (fun q i => ∃ j : Nat, j ≤ n ∧ i = .int .i64 j ∧ q = .int .i64 (k + 3 * j)) (fun _ i => n - (intOf i).toNat)
  case atStart => exact ⟨0, by omega, rfl, by go_num⟩
  case round =>
    obtain ⟨j, hj, rfl, rfl⟩ := hrel
    by_cases hlt : j < n
    · obtain ⟨b, off, x, y, z, hA, hbl, hx, hd, _, _, hc0, hc1, hc2⟩ := hr.at_ (k := j) (by omega)
      rw [mks_get mfD 3 k n j hlt] at hx
      injection hx with hx
      injection hx with hx hy
      injection hy with hy hz
      subst hx
      subst hy
      subst hz
      subst hA
      clear hr hd hlen
      go_wp2
      go_round
      case rel => exact ⟨j + 1, by omega, by go_num, by go_num⟩
      case measure => simp [intOf]; omega
    · have hjn : j = n := by omega
      subst hjn
      clear hr
      go_wp2
      go_ret
      exact ⟨rfl, rfl⟩
def InT (lo hi : Nat) (w : World) (v : Value) (l : List (Int × Int × Int)) : Prop := OwT lo w v l ∧ ∀ k, v.ownBlock = some k → k < hi
section
variable {lo hi lo' : Nat} {w w' : World} {v : Value} {l : List (Int × Int × Int)}
theorem InT.rng (h : InT lo hi w v l) : ∀ k, v.ownBlock = some k → lo ≤ k ∧ k < hi := fun k hk => ⟨(h.1.2.1.lt k hk).1, h.2 k hk⟩
theorem InT.lt (h : InT lo hi w v l) : ∀ k, v.ownBlock = some k → k < w.heap.size := fun k hk => (h.1.2.1.lt k hk).2
theorem InT.bel (h : InT lo hi w v l) (hb : Below w.heap.size w w') : InT lo hi w' v l := ⟨⟨h.1.1, ownsRow_bel h.1.2.1 hb, h.1.2.2⟩, h.2⟩
theorem InT.far (h : InT lo hi w v l) {u : Value} (hg : w.grownBy w' u.ownBlock) (hd : ∀ k, u.ownBlock = some k → k < lo ∨ hi ≤ k) : InT lo hi w' v l :=
  ⟨⟨h.1.1, h.1.2.1.kept hg (by
    cases hv : v.ownBlock with
    | none => exact .inl rfl
    | some k => exact .inr (fun e => by have h1 := h.rng k hv; have := hd k e.symm; omega)), h.1.2.2⟩, h.2⟩
theorem InT.rd {A : Option Addr} {n c : Nat} (h : InT lo hi w (.slice A n c) l) : RdT w A l := h.1.rd
theorem InT.len {A : Option Addr} {n c : Nat} (h : InT lo hi w (.slice A n c) l) : n = l.length := by obtain ⟨⟨A', c', e⟩, _⟩ := h.1; injection e
theorem OwT.in_ (h : OwT lo w v l) (hl : lo' ≤ lo) : InT lo' w.heap.size w v l := ⟨⟨h.1, ownsRow_mono h.2.1 hl, h.2.2⟩, fun k hk => (h.2.1.lt k hk).2⟩
theorem OwT.set' (h : OwT lo w v l) {p : Addr} (hp : p.block < lo) (u : Value) : OwT lo (w.setCell p u) v l := ⟨h.1, ownsRow_setCell_below h.2.1 hp u, h.2.2⟩
theorem OwT.alloc' (h : OwT lo w v l) (o : Obj) : OwT lo (w.alloc o) v l := ⟨h.1, h.2.1.alloc o, h.2.2⟩
theorem OwT.form (h : OwT lo w v l) : ∃ A c, v = .slice A l.length c := h.1
end
theorem OwT.blk' {B : Nat} {w : World} {v : Value} {l : List (Int × Int × Int)} (h : OwT B w v l) (hl : l ≠ []) :
    ∃ g cap rest, v = .slice (some ⟨g, 0, none⟩) l.length cap ∧ B ≤ g ∧ l.length ≤ cap ∧ cap ≤ maxLen ∧ ((l.flatMap cT) ++ rest).length = cap * 3 ∧ Blk w g 84 ((l.flatMap cT) ++ rest) := by
  rcases h.2.1.2 with ⟨_, h0⟩ | ⟨g, cap, cur, hv, hb, hg, hn, hm, hs, ht⟩
  · exact absurd (List.eq_nil_of_length_eq_zero h0) hl
  · have e : (l.flatMap cT) ++ cur.toList.drop (l.length * 3) = cur.toList := by rw [← ht]; exact List.take_append_drop _ _
    refine ⟨g, cap, cur.toList.drop (l.length * 3), hv, hb, hn, hm, ?_, ?_⟩
    · rw [e]; simpa using hs
    · rw [e]; exact hg
theorem Blk.ownT' {B g cap : Nat} {w : World} {l : List (Int × Int × Int)} {rest : List Value} (h : Blk w g 84 ((l.flatMap cT) ++ rest)) (hB : B ≤ g) (hn : l.length ≤ cap) (hm : cap ≤ maxLen) (hs : ((l.flatMap cT) ++ rest).length = cap * 3) (hg : ∀ x ∈ l, I64 x.1 ∧ I64 x.2.1 ∧ I64 x.2.2) :
    OwT B w (.slice (some ⟨g, 0, none⟩) l.length cap) l := by
  have e : (l.flatMap cT).length = l.length * 3 := flatMap_len cT 3 (fun _ => rfl) l
  exact ⟨⟨_, _, rfl⟩, ⟨e, .inr ⟨g, cap, _, rfl, hB, h, hn, hm, by simpa using hs, by rw [← e]; simp⟩⟩, hg⟩
theorem Blk.getI {w : World} {g : Nat} {E : TypeId} {l : List Int} (h : Blk w g E (l.map cI)) {r : Nat} {v : Int} (hv : l[r]? = some v) : w.cell? ⟨g, r, none⟩ = some (.int .i64 v) := by
  rw [h.cell, List.getElem?_map, hv]; rfl
theorem Blk.setI {w : World} {g : Nat} {E : TypeId} {l : List Int} (h : Blk w g E (l.map cI)) (r : Nat) (v : Int) : Blk (w.setCell ⟨g, r, none⟩ (.int .i64 v)) g E ((l.set r v).map cI) := by
  have := h.set_ r (.int .i64 v)
  rwa [show (l.map cI).set r (Value.int .i64 v) = (l.set r v).map cI by rw [List.map_set]; rfl] at this
theorem Blk.rdI {w : World} {g : Nat} {E : TypeId} {l : List Int} (h : Blk w g E (l.map cI)) (hl : ∀ x ∈ l, I64 x) : RdI w (some ⟨g, 0, none⟩) l := ⟨h.rd (by simp), hl⟩
theorem grown_bel {w X w1 : World} {row : Option Nat} (h : Below w.heap.size w X) (hg : X.grownBy w1 row) : w.grownBy w1 row :=
  ⟨hg.os.trans h.os, hg.tape.trans h.tape, hg.output.trans h.output, Nat.le_trans h.size hg.size, fun k hk hne => (hg.block k (Nat.lt_of_lt_of_le hk h.size) hne).trans (h.block k hk)⟩
theorem markRegion_in (lo hi : Nat) (A : Option Addr) (n c : Nat) (l : List Int) (k : Int) (w : World) (hn : n ≤ 1048576) (h1 : 0 ≤ k) (h2 : k ≤ 4194304) (h : InI lo hi w (.slice A n c) l) :
    Calls Try.prog 31 #[.agg #[.slice A n c], .int .i64 k] w fun e w' => e = .returned (.int .i64 (k + 1 * n)) ∧ InI lo hi w' (.slice A n c) (mks mfI 1 k n) ∧ w.grownBy w' (Value.slice A n c).ownBlock := by
  have h' := Lib.hid h
  clear h
  go_enter Try.func31, Try.ntmps31
  go_wp2_with fail
  refine (markIntS_in lo hi A n c l k _ hn h1 h2 (h'.out.bel (by go_grown))).mono ?_
  rintro e wn ⟨rfl, hI, hg⟩
  have HI := Lib.hid hI
  have Hg := Lib.hid (grown_bel (w := w) (by go_grown) hg)
  clear hI hg
  go_wp2_with fail
  go_ret
  exact ⟨ret_int (by omega), HI.out, Hg.out⟩
theorem append_at {P : Program} {wr : World} {ops : Array Oper} {rest : List Oper} {o : Oper} {a : Act} {Q : Exit → Act → World → Prop} (hgd : o.guard = none) (s x : Operand) (T : TypeId)
    (ho : o.op = .call { callee := .builtin .append, args := #[s, x], argTypes := #[T, T] })
    (B : Nat) (E : TypeId) (z : Value) (sz bytes : Nat) (ht : P.underlying T = some (.slice E)) (hinfo : (P.info? E).map (fun i => (i.zero, i.size, i.bytes)) = some (some z, sz, bytes)) (hzs : z.cells.size = sz) (hsz : 0 < sz) (hby : bytes ≤ 100)
    (v : Value) (n : Nat) (xs news : List Value) (hs : a.eval s = v) (hx : a.eval x = .slice (some ⟨wr.heap.size, 0, none⟩) 1 1) (hown : wr.ownsRow B E sz v n xs) (hl : news.length = sz) (h1 : ∀ u ∈ news, u.oneCell' = true) (hn : n ≤ 1048576) (hB : B ≤ wr.heap.size)
    (h : ∀ v' w1, w1.ownsRow B E sz v' (n + 1) (xs ++ news) → (wr.alloc (.cells news.toArray E)).grownBy w1 v.ownBlock → (v'.ownBlock = v.ownBlock ∨ v'.ownBlock = some (wr.heap.size + 1)) → wpList P ops Q rest (a.put o.dst v') w1) :
    wpList P ops Q (o :: rest) a (wr.alloc (.cells news.toArray E)) := by
  obtain ⟨i, hi, hzz⟩ := Option.map_eq_some_iff.1 hinfo
  simp only [Prod.mk.injEq] at hzz
  obtain ⟨hz, hs', hb⟩ := hzz
  refine wpList_append_own_at (P := P) _ hgd s x T ho B E i z sz bytes ht hi hz hs' hb hzs hsz v n xs hs (hown.alloc _) ⟨wr.heap.size, 0, none⟩ 1 1 news hx (by rw [hl, Nat.one_mul]) (fun j u hu => ?_) h1 (by simp only [maxLen]; omega) ?_ (by simp; omega) (fun v' w' g1 g2 _ g3 => h v' w' g1 g2 (by rw [World.size_alloc] at g3; exact g3))
  · rw [Addr.add_lit, Nat.zero_add, (Blk.new wr E news).cell j]; exact hu
  · have := Nat.mul_le_mul (show n + 1 ≤ 1048577 by omega) hby; omega
theorem wpList_atI {wr : World} {ops : Array Oper} {rest : List Oper} {o : Oper} {a : Act} {Q : Exit → Act → World → Prop} (hgd : o.guard = none) (s x : Operand) (ho : o.op = .call { callee := .builtin .append, args := #[s, x], argTypes := #[29, 29] })
    (B : Nat) (v : Value) (l : List Int) (c : Int) (hs : a.eval s = v) (hx : a.eval x = .slice (some ⟨wr.heap.size, 0, none⟩) 1 1) (hown : OwI B wr v l) (hB : B ≤ wr.heap.size) (hn : l.length ≤ 1048576) (hc : I64 c)
    (h : ∀ v' w1, OwI B w1 v' (l ++ [c]) → (∀ w, Below B w wr → Below B w w1) → wr.grownBy w1 v.ownBlock → (v'.ownBlock = v.ownBlock ∨ v'.ownBlock = some (wr.heap.size + 1)) → wr.heap.size + 1 ≤ w1.heap.size → wpList Try.prog ops Q rest (a.put o.dst v') w1) :
    wpList Try.prog ops Q (o :: rest) a (wr.alloc (.cells #[.int .i64 c] 3)) := by
  obtain ⟨_, o1, o2⟩ := hown
  refine append_at (P := Try.prog) hgd s x 29 ho B 3 (.int .i64 0) 1 8 Try.underlying29 (by kernel_rfl) rfl (by decide) (by decide) v l.length (l.map cI) [.int .i64 c] hs hx o1 rfl (by simp [Value.oneCell']) hn hB (fun v' w1 g1 g2 g3 => h v' w1 ⟨?_, ?_, ?_⟩ (fun w hb => below_grown o1 hB hb g2) (grown_bel (Below.alloc (Below.refl _ _) (Nat.le_refl _) _) g2) g3 (by have := g2.size; simpa using this))
  · simpa using own_form g1
  · simpa [cI] using g1
  · intro y hy
    rcases List.mem_append.1 hy with hy | hy
    · exact o2 y hy
    · simp at hy; subst hy; exact hc
theorem wpList_atC {wr : World} {ops : Array Oper} {rest : List Oper} {o : Oper} {a : Act} {Q : Exit → Act → World → Prop} (hgd : o.guard = none) (s x : Operand) (ho : o.op = .call { callee := .builtin .append, args := #[s, x], argTypes := #[64, 64] })
    (B : Nat) (v : Value) (l : List (Int × Int)) (c d : Int) (hs : a.eval s = v) (hx : a.eval x = .slice (some ⟨wr.heap.size, 0, none⟩) 1 1) (hown : OwC B wr v l) (hB : B ≤ wr.heap.size) (hn : l.length ≤ 1048576) (hc : I64 c) (hd : I64 d)
    (h : ∀ v' w1, OwC B w1 v' (l ++ [(c, d)]) → (∀ w, Below B w wr → Below B w w1) → wr.grownBy w1 v.ownBlock → (v'.ownBlock = v.ownBlock ∨ v'.ownBlock = some (wr.heap.size + 1)) → wr.heap.size + 1 ≤ w1.heap.size → wpList Try.prog ops Q rest (a.put o.dst v') w1) :
    wpList Try.prog ops Q (o :: rest) a (wr.alloc (.cells #[.int .i64 c, .int .i64 d] 62)) := by
  obtain ⟨_, o1, o2⟩ := hown
  refine append_at (P := Try.prog) hgd s x 64 ho B 62 (.agg #[.int .i64 0, .int .i64 0]) 2 16 Try.underlying64 (by kernel_rfl) rfl (by decide) (by decide) v l.length (l.flatMap cC) [.int .i64 c, .int .i64 d] hs hx o1 rfl (by simp [Value.oneCell']) hn hB (fun v' w1 g1 g2 g3 => h v' w1 ⟨?_, ?_, ?_⟩ (fun w hb => below_grown o1 hB hb g2) (grown_bel (Below.alloc (Below.refl _ _) (Nat.le_refl _) _) g2) g3 (by have := g2.size; simpa using this))
  · simpa using own_form g1
  · simpa [cC] using g1
  · intro y hy
    rcases List.mem_append.1 hy with hy | hy
    · exact o2 y hy
    · simp at hy; subst hy; exact ⟨hc, hd⟩
theorem wpList_atD {wr : World} {ops : Array Oper} {rest : List Oper} {o : Oper} {a : Act} {Q : Exit → Act → World → Prop} (hgd : o.guard = none) (s x : Operand) (ho : o.op = .call { callee := .builtin .append, args := #[s, x], argTypes := #[43, 43] })
    (B : Nat) (v : Value) (l : List (Int × Int × Bool)) (c d : Int) (e : Bool) (hs : a.eval s = v) (hx : a.eval x = .slice (some ⟨wr.heap.size, 0, none⟩) 1 1) (hown : OwD B wr v l) (hB : B ≤ wr.heap.size) (hn : l.length ≤ 1048576) (hc : I64 c) (hd : I64 d)
    (h : ∀ v' w1, OwD B w1 v' (l ++ [(c, d, e)]) → (∀ w, Below B w wr → Below B w w1) → wr.grownBy w1 v.ownBlock → (v'.ownBlock = v.ownBlock ∨ v'.ownBlock = some (wr.heap.size + 1)) → wr.heap.size + 1 ≤ w1.heap.size → wpList Try.prog ops Q rest (a.put o.dst v') w1) :
    wpList Try.prog ops Q (o :: rest) a (wr.alloc (.cells #[.int .i64 c, .int .i64 d, .bool e] 45)) := by
  obtain ⟨_, o1, o2⟩ := hown
  refine append_at (P := Try.prog) hgd s x 43 ho B 45 (.agg #[.int .i64 0, .int .i64 0, .bool false]) 3 24 Try.underlying43 (by kernel_rfl) rfl (by decide) (by decide) v l.length (l.flatMap cD) [.int .i64 c, .int .i64 d, .bool e] hs hx o1 rfl (by simp [Value.oneCell']) hn hB (fun v' w1 g1 g2 g3 => h v' w1 ⟨?_, ?_, ?_⟩ (fun w hb => below_grown o1 hB hb g2) (grown_bel (Below.alloc (Below.refl _ _) (Nat.le_refl _) _) g2) g3 (by have := g2.size; simpa using this))
  · simpa using own_form g1
  · simpa [cD] using g1
  · intro y hy
    rcases List.mem_append.1 hy with hy | hy
    · exact o2 y hy
    · simp at hy; subst hy; exact ⟨hc, hd⟩
end Go.Proofs.Ytoehmocamaamcaa

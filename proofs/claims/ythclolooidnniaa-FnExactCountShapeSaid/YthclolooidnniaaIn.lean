/-
  Slices of the call's own that lie between two bounds of the heap, kept over calls and over writes to other blocks; the laws' marks (markS) and the reading of marks (heldS) for each kind of element; no statement is proved here; lists of at most 1048576.
-/
import Derived.Test.YthclolooidnniaaOwn
import Derived.Test.YthclolooidnniaaInts
import Derived.Maps.AppendAt
namespace Go.Proofs.Ythclolooidnniaa
open Go.ChangeShapes Go.WideShapes Go.ChangeAt Go.RowKit Go.Deep
set_option linter.unusedVariables false

theorem bl_grown' {B : Nat} {a w w' : World} {v : Value} (h : Below B a w) (hg : w.grownBy w' v.ownBlock) (hB : B ≤ w.heap.size) (hr : ∀ k, v.ownBlock = some k → B ≤ k) : Below B a w' := h.grown hg hB hr
theorem Blk.far' {w w' : World} {g : Nat} {E : TypeId} {xs : List Value} {v : Value} (h : Blk w g E xs) (hg : w.grownBy w' v.ownBlock) (hne : ∀ k, v.ownBlock = some k → g ≠ k) : Blk w' g E xs :=
  (hg.block g h.lt (fun e => hne g e.symm rfl)).trans h
theorem bl_size2 {w X w1 : World} (h : Below w.heap.size w X) (h1 : Below X.heap.size X w1) : w.heap.size ≤ w1.heap.size := Nat.le_trans h.size h1.size
theorem bl_start {w X : World} (h : Below w.heap.size w X) : w.heap.size ≤ X.heap.size := h.size
theorem grown_set {w wr : World} {g i : Nat} {u : Value} (h : w.grownBy wr (some g)) : w.grownBy (wr.setCell ⟨g, i, none⟩ u) (some g) :=
  ⟨h.os, h.tape, h.output, by simpa using h.size, fun k hk hne => (Below.heap_setCell wr ⟨g, i, none⟩ u k (by intro e; exact hne (by rw [e]))).trans (h.block k hk hne)⟩
theorem grown_refl (w : World) (row : Option Nat) : w.grownBy w row := ⟨rfl, rfl, rfl, Nat.le_refl _, fun _ _ _ => rfl⟩
def mks {α : Type} (f : Int → α) (s k : Int) (n : Nat) : List α := (List.range n).map fun (i : Nat) => f (k + s * i)
theorem mks_len {α : Type} (f : Int → α) (s k : Int) (n : Nat) : (mks f s k n).length = n := by simp [mks]
theorem mks_get {α : Type} (f : Int → α) (s k : Int) (n i : Nat) (h : i < n) : (mks f s k n)[i]? = some (f (k + s * i)) := by simp [mks, h]
theorem mks_succ {α : Type} (f : Int → α) (s k : Int) (n : Nat) : mks f s k (n + 1) = mks f s k n ++ [f (k + s * n)] := by simp [mks, List.range_succ]
theorem mks_mem {α : Type} {f : Int → α} {s k : Int} {n : Nat} {x : α} (h : x ∈ mks f s k n) : ∃ i : Nat, i < n ∧ x = f (k + s * i) := by
  obtain ⟨i, hi, rfl⟩ := List.mem_map.1 h
  exact ⟨i, List.mem_range.1 hi, rfl⟩
def mfI (q : Int) : Int := q
def mfC (q : Int) : Int × Int := (q, q + 1)
def mfD (q : Int) : Int × Int × Bool := (q, q + 1, (q + 1 + 1) % 3 == 0)
def mfT (q : Int) : Int × Int × Int := (q, q + 1, q + 1 + 1)

def InI (lo hi : Nat) (w : World) (v : Value) (l : List Int) : Prop := OwI lo w v l ∧ ∀ k, v.ownBlock = some k → k < hi
section
variable {lo hi lo' : Nat} {w w' : World} {v : Value} {l : List Int}
theorem InI.rng (h : InI lo hi w v l) : ∀ k, v.ownBlock = some k → lo ≤ k ∧ k < hi := fun k hk => ⟨(h.1.2.1.lt k hk).1, h.2 k hk⟩
theorem InI.lt (h : InI lo hi w v l) : ∀ k, v.ownBlock = some k → k < w.heap.size := fun k hk => (h.1.2.1.lt k hk).2
theorem InI.bel (h : InI lo hi w v l) (hb : Below w.heap.size w w') : InI lo hi w' v l := ⟨⟨h.1.1, ownsRow_bel h.1.2.1 hb, h.1.2.2⟩, h.2⟩
theorem InI.far (h : InI lo hi w v l) {u : Value} (hg : w.grownBy w' u.ownBlock) (hd : ∀ k, u.ownBlock = some k → k < lo ∨ hi ≤ k) : InI lo hi w' v l :=
  ⟨⟨h.1.1, h.1.2.1.kept hg (by
    cases hv : v.ownBlock with
    | none => exact .inl rfl
    | some k => exact .inr (fun e => by have h1 := h.rng k hv; have := hd k e.symm; omega)), h.1.2.2⟩, h.2⟩
theorem InI.rd {A : Option Addr} {n c : Nat} (h : InI lo hi w (.slice A n c) l) : RdI w A l := h.1.rd
theorem InI.len {A : Option Addr} {n c : Nat} (h : InI lo hi w (.slice A n c) l) : n = l.length := by obtain ⟨⟨A', c', e⟩, _⟩ := h.1; injection e
theorem OwI.in_ (h : OwI lo w v l) (hl : lo' ≤ lo) : InI lo' w.heap.size w v l := ⟨⟨h.1, ownsRow_mono h.2.1 hl, h.2.2⟩, fun k hk => (h.2.1.lt k hk).2⟩
theorem OwI.set' (h : OwI lo w v l) {p : Addr} (hp : p.block < lo) (u : Value) : OwI lo (w.setCell p u) v l := ⟨h.1, ownsRow_setCell_below h.2.1 hp u, h.2.2⟩
theorem OwI.alloc' (h : OwI lo w v l) (o : Obj) : OwI lo (w.alloc o) v l := ⟨h.1, h.2.1.alloc o, h.2.2⟩
theorem OwI.form (h : OwI lo w v l) : ∃ A c, v = .slice A l.length c := h.1
end
theorem OwI.blk' {B : Nat} {w : World} {v : Value} {l : List Int} (h : OwI B w v l) (hl : l ≠ []) :
    ∃ g cap rest, v = .slice (some ⟨g, 0, none⟩) l.length cap ∧ B ≤ g ∧ l.length ≤ cap ∧ cap ≤ maxLen ∧ ((l.map cI) ++ rest).length = cap * 1 ∧ Blk w g 3 ((l.map cI) ++ rest) := by
  rcases h.2.1.2 with ⟨_, h0⟩ | ⟨g, cap, cur, hv, hb, hg, hn, hm, hs, ht⟩
  · exact absurd (List.eq_nil_of_length_eq_zero h0) hl
  · have e : (l.map cI) ++ cur.toList.drop (l.length * 1) = cur.toList := by rw [← ht]; exact List.take_append_drop _ _
    refine ⟨g, cap, cur.toList.drop (l.length * 1), hv, hb, hn, hm, ?_, ?_⟩
    · rw [e]; simpa using hs
    · rw [e]; exact hg
theorem Blk.ownI' {B g cap : Nat} {w : World} {l : List Int} {rest : List Value} (h : Blk w g 3 ((l.map cI) ++ rest)) (hB : B ≤ g) (hn : l.length ≤ cap) (hm : cap ≤ maxLen) (hs : ((l.map cI) ++ rest).length = cap * 1) (hg : ∀ x ∈ l, I64 x) :
    OwI B w (.slice (some ⟨g, 0, none⟩) l.length cap) l := by
  have e : (l.map cI).length = l.length * 1 := by simp
  exact ⟨⟨_, _, rfl⟩, ⟨e, .inr ⟨g, cap, _, rfl, hB, h, hn, hm, by simpa using hs, by rw [← e]; simp⟩⟩, hg⟩
theorem mark_stepI {wr : World} {g j : Nat} {l : List Int} {rest : List Value} {k : Int} (hj : j < l.length) (h : Blk wr g 3 (((mks mfI 1 k j).map cI) ++ ((l.drop j).map cI) ++ rest)) :
    Blk (wr.setCell ⟨g, j, none⟩ (.int .i64 (k + 1 * j))) g 3 (((mks mfI 1 k (j + 1)).map cI) ++ ((l.drop (j + 1)).map cI) ++ rest) := by
  have := (h.set_ (j) (.int .i64 (k + 1 * j)))
  have hl : (((mks mfI 1 k j).map cI)).length = j := by rw [List.length_map, mks_len]
  have hd : l.drop j = l[j] :: l.drop (j + 1) := List.drop_eq_getElem_cons hj
  have e : ((((mks mfI 1 k j).map cI) ++ ((l.drop j).map cI) ++ rest).set (j) (Value.int .i64 (k + 1 * j))) = ((mks mfI 1 k (j + 1)).map cI) ++ ((l.drop (j + 1)).map cI) ++ rest := by
    rw [List.append_assoc, List.set_append_right _ _ (by omega), hl, show j - j = 0 by omega, hd, mks_succ, List.map_append, List.append_assoc, List.append_assoc]
    rfl
  rw [e] at this
  exact this
set_option maxHeartbeats 1000000 in
theorem markIntS_in (lo hi : Nat) (A : Option Addr) (n c : Nat) (l : List Int) (k : Int) (w : World) (hn : n ≤ 1048576) (h1 : 0 ≤ k) (h2 : k ≤ 4194304) (h : InI lo hi w (.slice A n c) l) :
    Calls Try.prog 46 #[.slice A n c, .int .i64 k] w fun e w' => e = .returned (.int .i64 (k + 1 * n)) ∧ InI lo hi w' (.slice A n c) (mks mfI 1 k n) ∧ w.grownBy w' (Value.slice A n c).ownBlock := by
  have hnl := h.len
  have hhi := Lib.hid h.2
  by_cases h0 : l = []
  · have hz : n = 0 := by rw [hnl, h0]; rfl
    clear hnl
    subst hz
    subst h0
    have h' := Lib.hid h
    clear h
    go_enter Try.func46, Try.ntmps46
    go_wp2
    refine wp_loop_rounds 1 ?_
    rw [rounds_succ]
    go_wp2
    go_ret
    exact ⟨ret_int (by omega), h'.out, grown_refl _ _⟩
  · obtain ⟨g, cap, rest, hv, hBg, hnc, hcm, hs, hblk⟩ := h.1.blk' h0
    injection hv with e1 e2 e3
    subst e1
    subst e2
    subst e3
    have hs' := Lib.hid hs
    clear h hs hnl
    have N := hblk
    go_enter Try.func46, Try.ntmps46
    go_wp2
    go_loopw [1, 5] (fun q i wr => ∃ j : Nat, j ≤ l.length ∧ i = .int .i64 j ∧ q = .int .i64 (k + 1 * j) ∧ Blk wr g 3 (((mks mfI 1 k j).map cI) ++ ((l.drop j).map cI) ++ rest) ∧ w.grownBy wr (some g)) (fun _ i _ => l.length - (intOf i).toNat)
    case atStart => exact ⟨0, by omega, rfl, by go_num, by simpa [mks] using N, grown_refl _ _⟩
    case round =>
      obtain ⟨j, hj, rfl, rfl, hb, hbl⟩ := hrel
      clear N hblk
      by_cases hlt : j < l.length
      · have hln : j + (1 - 1) < (((mks mfI 1 k j).map cI) ++ ((l.drop j).map cI) ++ rest).length := by
          rw [List.length_append, List.length_append, List.length_map, List.length_map, mks_len, List.length_drop]; omega
        obtain ⟨u0, hu0⟩ : ∃ u, wr.cell? ⟨g, j, none⟩ = some u := ⟨_, (hb.cell _).trans (List.getElem?_eq_getElem (by omega))⟩
        have f0 := hb.frozen (j)
        have H := Lib.hid (mark_stepI (k := k) hlt hb)
        have Hb := Lib.hid hbl
        clear hb hbl hln
        go_wp2
        go_roundw
        case rel => exact ⟨j + 1, by omega, by go_num, by go_num, by have := H.out; rw [Int.one_mul] at this; exact this, (grown_set Hb.out)⟩
        case measure => simp [intOf]; omega
      · have hjn : j = l.length := by omega
        subst hjn
        have hb2 : Blk wr g 3 (((mks mfI 1 k l.length).map cI) ++ rest) := by simpa using hb
        have H := Lib.hid hb2
        clear hb hb2
        go_wp2
        go_ret
        refine ⟨rfl, ?_, hbl⟩
        have := H.out.ownI' (B := lo) (cap := c) hBg (by rw [mks_len]; exact hnc) hcm (by rw [← hs'.out, List.length_append, List.length_append, List.length_map, List.length_map, mks_len]) (by intro x hx; obtain ⟨i, hi, rfl⟩ := mks_mem hx; exact ⟨by unfold mfI; omega, by unfold mfI; omega⟩)
        rw [mks_len] at this
        exact ⟨this, hhi.out⟩
set_option maxHeartbeats 1000000 in
theorem heldIntS_in (A : Option Addr) (c n : Nat) (k : Int) (w : World) (hn : n ≤ 1048576) (h1 : 0 ≤ k) (h2 : k ≤ 4194304) (hr : RdI w A (mks mfI 1 k n)) :
    Calls Try.prog 47 #[.slice A n c, .int .i64 k] w fun e w' => e = .returned (.int .i64 (k + 1 * n)) ∧ w = w' := by
  have hlen := mks_len mfI 1 k n
  go_enter Try.func47, Try.ntmps47
  go_wp2
  go_loop [1, 5] (fun q i => ∃ j : Nat, j ≤ n ∧ i = .int .i64 j ∧ q = .int .i64 (k + 1 * j)) (fun _ i => n - (intOf i).toNat)
  case atStart => exact ⟨0, by omega, rfl, by go_num⟩
  case round =>
    obtain ⟨j, hj, rfl, rfl⟩ := hrel
    by_cases hlt : j < n
    · obtain ⟨b, off, x, hA, hbl, hx, hd, _, hc0⟩ := hr.at_ (k := j) (by omega)
      rw [mks_get mfI 1 k n j hlt] at hx
      injection hx with hx
      unfold mfI at hx
      subst hx
      subst hA
      clear hr hd hlen
      go_wp2
      go_round
      case rel => exact ⟨j + 1, by omega, by go_num, by go_num⟩
      case measure => simp [intOf]; omega
    · have hjn : j = n := by omega
      subst hjn
      clear hr
      go_wp2
      go_ret
      exact ⟨rfl, rfl⟩
def InC (lo hi : Nat) (w : World) (v : Value) (l : List (Int × Int)) : Prop := OwC lo w v l ∧ ∀ k, v.ownBlock = some k → k < hi
section
variable {lo hi lo' : Nat} {w w' : World} {v : Value} {l : List (Int × Int)}
theorem InC.rng (h : InC lo hi w v l) : ∀ k, v.ownBlock = some k → lo ≤ k ∧ k < hi := fun k hk => ⟨(h.1.2.1.lt k hk).1, h.2 k hk⟩
theorem InC.lt (h : InC lo hi w v l) : ∀ k, v.ownBlock = some k → k < w.heap.size := fun k hk => (h.1.2.1.lt k hk).2
theorem InC.bel (h : InC lo hi w v l) (hb : Below w.heap.size w w') : InC lo hi w' v l := ⟨⟨h.1.1, ownsRow_bel h.1.2.1 hb, h.1.2.2⟩, h.2⟩
theorem InC.far (h : InC lo hi w v l) {u : Value} (hg : w.grownBy w' u.ownBlock) (hd : ∀ k, u.ownBlock = some k → k < lo ∨ hi ≤ k) : InC lo hi w' v l :=
  ⟨⟨h.1.1, h.1.2.1.kept hg (by
    cases hv : v.ownBlock with
    | none => exact .inl rfl
    | some k => exact .inr (fun e => by have h1 := h.rng k hv; have := hd k e.symm; omega)), h.1.2.2⟩, h.2⟩
theorem InC.rd {A : Option Addr} {n c : Nat} (h : InC lo hi w (.slice A n c) l) : RdC w A l := h.1.rd
theorem InC.len {A : Option Addr} {n c : Nat} (h : InC lo hi w (.slice A n c) l) : n = l.length := by obtain ⟨⟨A', c', e⟩, _⟩ := h.1; injection e
theorem OwC.in_ (h : OwC lo w v l) (hl : lo' ≤ lo) : InC lo' w.heap.size w v l := ⟨⟨h.1, ownsRow_mono h.2.1 hl, h.2.2⟩, fun k hk => (h.2.1.lt k hk).2⟩
theorem OwC.set' (h : OwC lo w v l) {p : Addr} (hp : p.block < lo) (u : Value) : OwC lo (w.setCell p u) v l := ⟨h.1, ownsRow_setCell_below h.2.1 hp u, h.2.2⟩
theorem OwC.alloc' (h : OwC lo w v l) (o : Obj) : OwC lo (w.alloc o) v l := ⟨h.1, h.2.1.alloc o, h.2.2⟩
theorem OwC.form (h : OwC lo w v l) : ∃ A c, v = .slice A l.length c := h.1
end
theorem OwC.blk' {B : Nat} {w : World} {v : Value} {l : List (Int × Int)} (h : OwC B w v l) (hl : l ≠ []) :
    ∃ g cap rest, v = .slice (some ⟨g, 0, none⟩) l.length cap ∧ B ≤ g ∧ l.length ≤ cap ∧ cap ≤ maxLen ∧ ((l.flatMap cC) ++ rest).length = cap * 2 ∧ Blk w g 49 ((l.flatMap cC) ++ rest) := by
  rcases h.2.1.2 with ⟨_, h0⟩ | ⟨g, cap, cur, hv, hb, hg, hn, hm, hs, ht⟩
  · exact absurd (List.eq_nil_of_length_eq_zero h0) hl
  · have e : (l.flatMap cC) ++ cur.toList.drop (l.length * 2) = cur.toList := by rw [← ht]; exact List.take_append_drop _ _
    refine ⟨g, cap, cur.toList.drop (l.length * 2), hv, hb, hn, hm, ?_, ?_⟩
    · rw [e]; simpa using hs
    · rw [e]; exact hg
theorem Blk.ownC' {B g cap : Nat} {w : World} {l : List (Int × Int)} {rest : List Value} (h : Blk w g 49 ((l.flatMap cC) ++ rest)) (hB : B ≤ g) (hn : l.length ≤ cap) (hm : cap ≤ maxLen) (hs : ((l.flatMap cC) ++ rest).length = cap * 2) (hg : ∀ x ∈ l, I64 x.1 ∧ I64 x.2) :
    OwC B w (.slice (some ⟨g, 0, none⟩) l.length cap) l := by
  have e : (l.flatMap cC).length = l.length * 2 := flatMap_len cC 2 (fun _ => rfl) l
  exact ⟨⟨_, _, rfl⟩, ⟨e, .inr ⟨g, cap, _, rfl, hB, h, hn, hm, by simpa using hs, by rw [← e]; simp⟩⟩, hg⟩
theorem mark_stepC {wr : World} {g j : Nat} {l : List (Int × Int)} {rest : List Value} {k : Int} (hj : j < l.length) (h : Blk wr g 49 (((mks mfC 2 k j).flatMap cC) ++ ((l.drop j).flatMap cC) ++ rest)) :
    Blk ((wr.setCell ⟨g, j * 2, none⟩ (.int .i64 (k + 2 * j))).setCell ⟨g, j * 2 + 1, none⟩ (.int .i64 (k + 2 * j + 1))) g 49 (((mks mfC 2 k (j + 1)).flatMap cC) ++ ((l.drop (j + 1)).flatMap cC) ++ rest) := by
  have := ((h.set_ (j * 2) (.int .i64 (k + 2 * j))).set_ (j * 2 + 1) (.int .i64 (k + 2 * j + 1)))
  have hl : (((mks mfC 2 k j).flatMap cC)).length = j * 2 := by rw [flatMap_len cC 2 (fun _ => rfl), mks_len]
  have hd : l.drop j = l[j] :: l.drop (j + 1) := List.drop_eq_getElem_cons hj
  have e : (((((mks mfC 2 k j).flatMap cC) ++ ((l.drop j).flatMap cC) ++ rest).set (j * 2) (Value.int .i64 (k + 2 * j))).set (j * 2 + 1) (Value.int .i64 (k + 2 * j + 1))) = ((mks mfC 2 k (j + 1)).flatMap cC) ++ ((l.drop (j + 1)).flatMap cC) ++ rest := by
    rw [List.append_assoc, List.set_append_right _ _ (by omega), List.set_append_right _ _ (by omega), hl, show j * 2 - j * 2 = 0 by omega, show j * 2 + 1 - j * 2 = 1 by omega, hd, mks_succ, List.flatMap_append, List.append_assoc, List.append_assoc]
    rfl
  rw [e] at this
  exact this
set_option maxHeartbeats 1000000 in
theorem markCellS_in (lo hi : Nat) (A : Option Addr) (n c : Nat) (l : List (Int × Int)) (k : Int) (w : World) (hn : n ≤ 1048576) (h1 : 0 ≤ k) (h2 : k ≤ 4194304) (h : InC lo hi w (.slice A n c) l) :
    Calls Try.prog 53 #[.slice A n c, .int .i64 k] w fun e w' => e = .returned (.int .i64 (k + 2 * n)) ∧ InC lo hi w' (.slice A n c) (mks mfC 2 k n) ∧ w.grownBy w' (Value.slice A n c).ownBlock := by
  have hnl := h.len
  have hhi := Lib.hid h.2
  by_cases h0 : l = []
  · have hz : n = 0 := by rw [hnl, h0]; rfl
    clear hnl
    subst hz
    subst h0
    have h' := Lib.hid h
    clear h
    go_enter Try.func53, Try.ntmps53
    go_wp2
    refine wp_loop_rounds 1 ?_
    rw [rounds_succ]
    go_wp2
    go_ret
    exact ⟨ret_int (by omega), h'.out, grown_refl _ _⟩
  · obtain ⟨g, cap, rest, hv, hBg, hnc, hcm, hs, hblk⟩ := h.1.blk' h0
    injection hv with e1 e2 e3
    subst e1
    subst e2
    subst e3
    have hs' := Lib.hid hs
    clear h hs hnl
    have N := hblk
    go_enter Try.func53, Try.ntmps53
    go_wp2
    go_loopw [1, 5] (fun q i wr => ∃ j : Nat, j ≤ l.length ∧ i = .int .i64 j ∧ q = .int .i64 (k + 2 * j) ∧ Blk wr g 49 (((mks mfC 2 k j).flatMap cC) ++ ((l.drop j).flatMap cC) ++ rest) ∧ w.grownBy wr (some g)) (fun _ i _ => l.length - (intOf i).toNat)
    case atStart => exact ⟨0, by omega, rfl, by go_num, by simpa [mks] using N, grown_refl _ _⟩
    case round =>
      obtain ⟨j, hj, rfl, rfl, hb, hbl⟩ := hrel
      clear N hblk
      by_cases hlt : j < l.length
      · have hln : j * 2 + (2 - 1) < (((mks mfC 2 k j).flatMap cC) ++ ((l.drop j).flatMap cC) ++ rest).length := by
          rw [List.length_append, List.length_append, flatMap_len cC 2 (fun _ => rfl), flatMap_len cC 2 (fun _ => rfl), mks_len, List.length_drop]; omega
        obtain ⟨u0, hu0⟩ : ∃ u, wr.cell? ⟨g, j * 2, none⟩ = some u := ⟨_, (hb.cell _).trans (List.getElem?_eq_getElem (by omega))⟩
        obtain ⟨u1, hu1⟩ : ∃ u, wr.cell? ⟨g, j * 2 + 1, none⟩ = some u := ⟨_, (hb.cell _).trans (List.getElem?_eq_getElem (by omega))⟩
        have f0 := hb.frozen (j * 2)
        have f1 := hb.frozen (j * 2 + 1)
        have H := Lib.hid (mark_stepC (k := k) hlt hb)
        have Hb := Lib.hid hbl
        clear hb hbl hln
        go_wp2
        go_roundw
        case rel => exact ⟨j + 1, by omega, by go_num, by go_num, H.out, (grown_set (grown_set Hb.out))⟩
        case measure => simp [intOf]; omega
      · have hjn : j = l.length := by omega
        subst hjn
        have hb2 : Blk wr g 49 (((mks mfC 2 k l.length).flatMap cC) ++ rest) := by simpa using hb
        have H := Lib.hid hb2
        clear hb hb2
        go_wp2
        go_ret
        refine ⟨rfl, ?_, hbl⟩
        have := H.out.ownC' (B := lo) (cap := c) hBg (by rw [mks_len]; exact hnc) hcm (by rw [← hs'.out, List.length_append, List.length_append, flatMap_len cC 2 (fun _ => rfl), flatMap_len cC 2 (fun _ => rfl), mks_len]) (by intro x hx; obtain ⟨i, hi, rfl⟩ := mks_mem hx; exact ⟨⟨by unfold mfC; dsimp only; omega, by unfold mfC; dsimp only; omega⟩, ⟨by unfold mfC; dsimp only; omega, by unfold mfC; dsimp only; omega⟩⟩)
        rw [mks_len] at this
        exact ⟨this, hhi.out⟩
set_option maxHeartbeats 1000000 in
theorem heldCellS_in (A : Option Addr) (c n : Nat) (k : Int) (w : World) (hn : n ≤ 1048576) (h1 : 0 ≤ k) (h2 : k ≤ 4194304) (hr : RdC w A (mks mfC 2 k n)) :
    Calls Try.prog 54 #[.slice A n c, .int .i64 k] w fun e w' => e = .returned (.int .i64 (k + 2 * n)) ∧ w = w' := by
  have hlen := mks_len mfC 2 k n
  go_enter Try.func54, Try.ntmps54
  go_wp2
  go_loop [1, 5] (fun q i => ∃ j : Nat, j ≤ n ∧ i = .int .i64 j ∧ q = .int .i64 (k + 2 * j)) (fun _ i => n - (intOf i).toNat)
  case atStart => exact ⟨0, by omega, rfl, by go_num⟩
  case round =>
    obtain ⟨j, hj, rfl, rfl⟩ := hrel
    by_cases hlt : j < n
    · obtain ⟨b, off, x, y, hA, hbl, hx, hd, _, _, hc0, hc1⟩ := hr.at_ (k := j) (by omega)
      rw [mks_get mfC 2 k n j hlt] at hx
      injection hx with hx
      injection hx with hx hy
      subst hx
      subst hy
      subst hA
      clear hr hd hlen
      go_wp2
      go_round
      case rel => exact ⟨j + 1, by omega, by go_num, by go_num⟩
      case measure => simp [intOf]; omega
    · have hjn : j = n := by omega
      subst hjn
      clear hr
      go_wp2
      go_ret
      exact ⟨rfl, rfl⟩
theorem Blk.getI {w : World} {g : Nat} {E : TypeId} {l : List Int} (h : Blk w g E (l.map cI)) {r : Nat} {v : Int} (hv : l[r]? = some v) : w.cell? ⟨g, r, none⟩ = some (.int .i64 v) := by
  rw [h.cell, List.getElem?_map, hv]; rfl
theorem Blk.setI {w : World} {g : Nat} {E : TypeId} {l : List Int} (h : Blk w g E (l.map cI)) (r : Nat) (v : Int) : Blk (w.setCell ⟨g, r, none⟩ (.int .i64 v)) g E ((l.set r v).map cI) := by
  have := h.set_ r (.int .i64 v)
  rwa [show (l.map cI).set r (Value.int .i64 v) = (l.set r v).map cI by rw [List.map_set]; rfl] at this
theorem Blk.rdI {w : World} {g : Nat} {E : TypeId} {l : List Int} (h : Blk w g E (l.map cI)) (hl : ∀ x ∈ l, I64 x) : RdI w (some ⟨g, 0, none⟩) l := ⟨h.rd (by simp), hl⟩
theorem grown_bel {w X w1 : World} {row : Option Nat} (h : Below w.heap.size w X) (hg : X.grownBy w1 row) : w.grownBy w1 row :=
  ⟨hg.os.trans h.os, hg.tape.trans h.tape, hg.output.trans h.output, Nat.le_trans h.size hg.size, fun k hk hne => (hg.block k (Nat.lt_of_lt_of_le hk h.size) hne).trans (h.block k hk)⟩
theorem markRegion_in (lo hi : Nat) (A : Option Addr) (n c : Nat) (l : List Int) (k : Int) (w : World) (hn : n ≤ 1048576) (h1 : 0 ≤ k) (h2 : k ≤ 4194304) (h : InI lo hi w (.slice A n c) l) :
    Calls Try.prog 45 #[.agg #[.slice A n c], .int .i64 k] w fun e w' => e = .returned (.int .i64 (k + 1 * n)) ∧ InI lo hi w' (.slice A n c) (mks mfI 1 k n) ∧ w.grownBy w' (Value.slice A n c).ownBlock := by
  have h' := Lib.hid h
  clear h
  go_enter Try.func45, Try.ntmps45
  go_wp2_with fail
  refine (markIntS_in lo hi A n c l k _ hn h1 h2 (h'.out.bel (by go_grown))).mono ?_
  rintro e wn ⟨rfl, hI, hg⟩
  have HI := Lib.hid hI
  have Hg := Lib.hid (grown_bel (w := w) (by go_grown) hg)
  clear hI hg
  go_wp2_with fail
  go_ret
  exact ⟨ret_int (by omega), HI.out, Hg.out⟩
theorem append_at {P : Program} {wr : World} {ops : Array Oper} {rest : List Oper} {o : Oper} {a : Act} {Q : Exit → Act → World → Prop} (hgd : o.guard = none) (s x : Operand) (T : TypeId)
    (ho : o.op = .call { callee := .builtin .append, args := #[s, x], argTypes := #[T, T] })
    (B : Nat) (E : TypeId) (z : Value) (sz bytes : Nat) (ht : P.underlying T = some (.slice E)) (hinfo : (P.info? E).map (fun i => (i.zero, i.size, i.bytes)) = some (some z, sz, bytes)) (hzs : z.cells.size = sz) (hsz : 0 < sz) (hby : bytes ≤ 100)
    (v : Value) (n : Nat) (xs news : List Value) (hs : a.eval s = v) (hx : a.eval x = .slice (some ⟨wr.heap.size, 0, none⟩) 1 1) (hown : wr.ownsRow B E sz v n xs) (hl : news.length = sz) (h1 : ∀ u ∈ news, u.oneCell' = true) (hn : n ≤ 1048576) (hB : B ≤ wr.heap.size)
    (h : ∀ v' w1, w1.ownsRow B E sz v' (n + 1) (xs ++ news) → (wr.alloc (.cells news.toArray E)).grownBy w1 v.ownBlock → (v'.ownBlock = v.ownBlock ∨ v'.ownBlock = some (wr.heap.size + 1)) → wpList P ops Q rest (a.put o.dst v') w1) :
    wpList P ops Q (o :: rest) a (wr.alloc (.cells news.toArray E)) := by
  obtain ⟨i, hi, hzz⟩ := Option.map_eq_some_iff.1 hinfo
  simp only [Prod.mk.injEq] at hzz
  obtain ⟨hz, hs', hb⟩ := hzz
  refine wpList_append_own_at (P := P) _ hgd s x T ho B E i z sz bytes ht hi hz hs' hb hzs hsz v n xs hs (hown.alloc _) ⟨wr.heap.size, 0, none⟩ 1 1 news hx (by rw [hl, Nat.one_mul]) (fun j u hu => ?_) h1 (by simp only [maxLen]; omega) ?_ (by simp; omega) (fun v' w' g1 g2 _ g3 => h v' w' g1 g2 (by rw [World.size_alloc] at g3; exact g3))
  · rw [Addr.add_lit, Nat.zero_add, (Blk.new wr E news).cell j]; exact hu
  · have := Nat.mul_le_mul (show n + 1 ≤ 1048577 by omega) hby; omega
theorem wpList_atI {wr : World} {ops : Array Oper} {rest : List Oper} {o : Oper} {a : Act} {Q : Exit → Act → World → Prop} (hgd : o.guard = none) (s x : Operand) (ho : o.op = .call { callee := .builtin .append, args := #[s, x], argTypes := #[22, 22] })
    (B : Nat) (v : Value) (l : List Int) (c : Int) (hs : a.eval s = v) (hx : a.eval x = .slice (some ⟨wr.heap.size, 0, none⟩) 1 1) (hown : OwI B wr v l) (hB : B ≤ wr.heap.size) (hn : l.length ≤ 1048576) (hc : I64 c)
    (h : ∀ v' w1, OwI B w1 v' (l ++ [c]) → (∀ w, Below B w wr → Below B w w1) → wr.grownBy w1 v.ownBlock → (v'.ownBlock = v.ownBlock ∨ v'.ownBlock = some (wr.heap.size + 1)) → wr.heap.size + 1 ≤ w1.heap.size → wpList Try.prog ops Q rest (a.put o.dst v') w1) :
    wpList Try.prog ops Q (o :: rest) a (wr.alloc (.cells #[.int .i64 c] 3)) := by
  obtain ⟨_, o1, o2⟩ := hown
  refine append_at (P := Try.prog) hgd s x 22 ho B 3 (.int .i64 0) 1 8 Try.underlying22 (by kernel_rfl) rfl (by decide) (by decide) v l.length (l.map cI) [.int .i64 c] hs hx o1 rfl (by simp [Value.oneCell']) hn hB (fun v' w1 g1 g2 g3 => h v' w1 ⟨?_, ?_, ?_⟩ (fun w hb => below_grown o1 hB hb g2) (grown_bel (Below.alloc (Below.refl _ _) (Nat.le_refl _) _) g2) g3 (by have := g2.size; simpa using this))
  · simpa using own_form g1
  · simpa [cI] using g1
  · intro y hy
    rcases List.mem_append.1 hy with hy | hy
    · exact o2 y hy
    · simp at hy; subst hy; exact hc
theorem wpList_atC {wr : World} {ops : Array Oper} {rest : List Oper} {o : Oper} {a : Act} {Q : Exit → Act → World → Prop} (hgd : o.guard = none) (s x : Operand) (ho : o.op = .call { callee := .builtin .append, args := #[s, x], argTypes := #[36, 36] })
    (B : Nat) (v : Value) (l : List (Int × Int)) (c d : Int) (hs : a.eval s = v) (hx : a.eval x = .slice (some ⟨wr.heap.size, 0, none⟩) 1 1) (hown : OwC B wr v l) (hB : B ≤ wr.heap.size) (hn : l.length ≤ 1048576) (hc : I64 c) (hd : I64 d)
    (h : ∀ v' w1, OwC B w1 v' (l ++ [(c, d)]) → (∀ w, Below B w wr → Below B w w1) → wr.grownBy w1 v.ownBlock → (v'.ownBlock = v.ownBlock ∨ v'.ownBlock = some (wr.heap.size + 1)) → wr.heap.size + 1 ≤ w1.heap.size → wpList Try.prog ops Q rest (a.put o.dst v') w1) :
    wpList Try.prog ops Q (o :: rest) a (wr.alloc (.cells #[.int .i64 c, .int .i64 d] 49)) := by
  obtain ⟨_, o1, o2⟩ := hown
  refine append_at (P := Try.prog) hgd s x 36 ho B 49 (.agg #[.int .i64 0, .int .i64 0]) 2 16 Try.underlying36 (by kernel_rfl) rfl (by decide) (by decide) v l.length (l.flatMap cC) [.int .i64 c, .int .i64 d] hs hx o1 rfl (by simp [Value.oneCell']) hn hB (fun v' w1 g1 g2 g3 => h v' w1 ⟨?_, ?_, ?_⟩ (fun w hb => below_grown o1 hB hb g2) (grown_bel (Below.alloc (Below.refl _ _) (Nat.le_refl _) _) g2) g3 (by have := g2.size; simpa using this))
  · simpa using own_form g1
  · simpa [cC] using g1
  · intro y hy
    rcases List.mem_append.1 hy with hy | hy
    · exact o2 y hy
    · simp at hy; subst hy; exact ⟨hc, hd⟩
end Go.Proofs.Ythclolooidnniaa

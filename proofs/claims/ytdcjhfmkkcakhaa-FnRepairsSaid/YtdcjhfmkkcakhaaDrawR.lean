/-
  The reference's draw of a region (l03Region): it is a valid one. The cursor alone is written. No condition.
-/
import Derived.Test.YtdcjhfmkkcakhaaDraw
import Derived.Test.YtdcjhfmkkcakhaaRectS
import Derived.Test.YtdcjhfmkkcakhaaSlices
import Derived.Deep.CutRange
import Derived.StillTailTactics
namespace Go.Proofs.Ytdcjhfmkkcakhaa
open Go.ChangeShapes Go.WideShapes Go.ChangeAt Go.RowKit Go.Deep
set_option linter.unusedVariables false
theorem Cur.typ {w : World} {g : Nat} (h : Cur w g) : ∀ k, some g = some k → ∃ cur fr, w.heap[k]? = some (.cells cur 168 fr) := by
  obtain ⟨A, c, l, i, x, h1, _⟩ := h
  intro k hk
  injection hk with hk
  subst hk
  exact ⟨_, _, h1⟩
theorem OwI.drawn {B g : Nat} {w w' : World} {v : Value} {l : List Int} (h : OwI B w v l) (hc : Cur w g) (hg : w.grownBy w' (some g)) : OwI B w' v l := ⟨h.1, h.2.1.kept hg (own_apart h.2.1 (by decide) hc.typ), h.2.2⟩
/-- a store behind the cursor keeps it -/
theorem Cur.set_ {w : World} {g b i : Nat} {u : Value} (h : Cur w g) (hb : g < b) : Cur (w.setCell ⟨b, i, none⟩ u) g := by
  obtain ⟨A, c, l, j, x, h1, h2, h3, h4⟩ := h
  exact ⟨A, c, l, j, x, h1.farN _ _ (Nat.ne_of_lt hb) _, h2.setFar (fun h a e => by have := h3 h a e; omega) i u, h3, h4⟩
theorem Blk.neT {w : World} {b b' : Nat} {E E' : TypeId} {xs ys : List Value} (h : Blk w b E xs) (k : Blk w b' E' ys) (hne : E ≠ E') : b ≠ b' := by
  rintro rfl
  unfold Blk at h k
  rw [h] at k
  injection k with k
  injection k with k1 k2
  exact hne k2
/-- the rows of the region under way, its variables and the cursor -/
structure RW (g Z r5 H c : Nat) (A : Option Addr) (w0 w : World) (l : List Int) : Prop where
  cur : Cur w g
  gz : g < Z
  z0 : w0.heap.size ≤ Z
  zz : Z < r5
  own : OwI (Z + 1) w (.slice A H c) l
  len : l.length = H
  ok : regOk l = true
  var : Blk w r5 31 [.slice A H c]
  res : Blk w Z 31 [.slice none 0 0]
  drawn : w0.grownBy w (some g)
theorem RW.draw {g Z r5 H c : Nat} {A : Option Addr} {w0 w w1 : World} {l : List Int} (h : RW g Z r5 H c A w0 w l) (hd : Drawn g w w1) : RW g Z r5 H c A w0 w1 l :=
  ⟨hd.1, h.gz, h.z0, h.zz, h.own.drawn h.cur hd.2, h.len, h.ok, h.var.grow hd.2 (by have := h.gz; have := h.zz; omega), h.res.grow hd.2 (by have := h.gz; omega), grown_trans h.drawn hd.2⟩
theorem RW.bel {g Z r5 H c : Nat} {A : Option Addr} {w0 w w1 : World} {l : List Int} (h : RW g Z r5 H c A w0 w l) (hb : Below w.heap.size w w1) : RW g Z r5 H c A w0 w1 l := h.draw (Drawn.start h.cur hb)
theorem RW.put {g Z r5 H c : Nat} {A : Option Addr} {w0 w : World} {l : List Int} (h : RW g Z r5 H c A w0 w l) {y : Nat} (hy : y < H) :
    ∃ b, A = some ⟨b, 0, none⟩ ∧ w.frozen? ⟨b, y, none⟩ = false ∧ (∃ u : Nat, u ≤ 255 ∧ w.cell? ⟨b, y, none⟩ = some (.int .i64 (u : Int))) ∧ ∀ v : Int, 0 ≤ v → v ≤ 255 → RW g Z r5 H c A w0 (w.setCell ⟨b, y, none⟩ (.int .i64 v)) (l.set y v) := by
  obtain ⟨⟨A', c', e⟩, ho, hi⟩ := h.own
  have hl := h.len
  rcases ho.2 with ⟨_, h0⟩ | ⟨b, cap, cur, hvv, hB, hg, hn, hm, hs, ht⟩
  · omega
  · injection hvv with e1 e2 e3
    have hb : Blk w b 3 cur.toList := by unfold Blk; simpa using hg
    have hcells : ∀ (j : Nat) (x : Int), l[j]? = some x → cur.toList[j]? = some (.int .i64 x) := fun j x hx => by
      have hj : j < l.length := (List.getElem?_eq_some_iff.1 hx).1
      have h2 : (cur.toList.take (l.length * 1))[j]? = (l.map cI)[j]? := by rw [ht]
      rw [List.getElem?_take, if_pos (by omega), List.getElem?_map, hx] at h2
      exact h2
    have hyl : y < l.length := by omega
    have hu : l[y]? = some l[y] := List.getElem?_eq_getElem hyl
    have hr := (regOk_iff.1 h.ok).2 _ (List.getElem_mem hyl)
    have hgz := h.gz
    have hzz := h.zz
    refine ⟨b, e1, hb.frozen y, ⟨(l[y]).toNat, by omega, by rw [hb.cell y, hcells y _ hu]; congr 2; omega⟩, fun v hv0 hv1 => ?_⟩
    have hset := hb.set_ y (.int .i64 v)
    have hok : regOk (l.set y v) = true := by
      rw [regOk_iff]
      refine ⟨by rw [List.length_set]; exact (regOk_iff.1 h.ok).1, fun x hx => ?_⟩
      rcases List.mem_or_eq_of_mem_set hx with h1 | h1
      · exact (regOk_iff.1 h.ok).2 x h1
      · subst h1; exact ⟨hv0, hv1⟩
    refine ⟨h.cur.set_ (by omega), h.gz, h.z0, h.zz, ⟨⟨A, c, by rw [List.length_set, hl]⟩, ⟨by simp, .inr ⟨b, cap, (cur.toList.set y (.int .i64 v)).toArray, ?_, hB, ?_, by rw [List.length_set]; exact hn, hm, by simpa using hs, ?_⟩⟩, fun x hx => ?_⟩, by rw [List.length_set]; exact hl, hok, h.var.farN _ _ (h.var.neT hb (by decide)) _, h.res.farN _ _ (by omega) _, ?_⟩
    · rw [List.length_set, e1, e3, hl]
    · unfold Blk at hset; simpa using hset
    · rw [List.length_set, List.map_set, ← ht, List.take_set]; simp [cI]
    · have := (regOk_iff.1 hok).2 x hx; exact ⟨by omega, by omega⟩
    · exact ⟨h.drawn.os, h.drawn.tape, h.drawn.output, by simpa using h.drawn.size, fun k hk hne => (Below.heap_setCell w ⟨b, y, none⟩ (.int .i64 v) k (by have := h.z0; show k ≠ b; omega)).trans (h.drawn.block k hk hne)⟩
theorem RW.fin {g Z r5 H c : Nat} {A : Option Addr} {w0 w : World} {l : List Int} (h : RW g Z r5 H c A w0 w l) :
    Blk (w.setCell ⟨Z, 0, none⟩ (.slice A H c)) Z 31 [.slice A H c] ∧ OwI w0.heap.size (w.setCell ⟨Z, 0, none⟩ (.slice A H c)) (.slice A l.length c) l ∧ Drawn g w0 (w.setCell ⟨Z, 0, none⟩ (.slice A H c)) := by
  have hz := h.z0
  refine ⟨h.res.set_ 0 _, ?_, h.cur.set_ h.gz, ⟨h.drawn.os, h.drawn.tape, h.drawn.output, by simpa using h.drawn.size, fun k hk hne => (Below.heap_setCell w ⟨Z, 0, none⟩ (.slice A H c) k (by show k ≠ Z; omega)).trans (h.drawn.block k hk hne)⟩⟩
  have := (h.own.set_ (p := ⟨Z, 0, none⟩) (by show Z < Z + 1; omega) (.slice A H c)).mono (show w0.heap.size ≤ Z + 1 by omega)
  rw [h.len]
  exact this
theorem i64_or_natR (a b : Nat) (ha : a < 2 ^ 63) (hb : b < 2 ^ 63) : bits .or .i64 (a : Int) (b : Int) = ((a ||| b : Nat) : Int) := by
  have hx : a ||| b < 2 ^ 63 := Nat.or_lt_two_pow ha hb
  show IntKind.i64.wrap ((BitVec.ofInt 64 (a : Int) ||| BitVec.ofInt 64 (b : Int)).toNat : Int) = _
  rw [BitVec.toNat_or, ofInt_i64 a (by omega), ofInt_i64 b (by omega), IntKind.wrap_i64]
  omega
set_option maxRecDepth 100000 in
set_option maxHeartbeats 4000000 in
theorem l03Region_any (g : Nat) (w : World) (h : Cur w g) :
    Calls Try.prog 88 #[.pointer (some ⟨g, 0, none⟩)] w fun e w' => ∃ (A : Option Addr) (l : List Int) (c : Nat), e = .returned (.agg #[.slice A l.length c]) ∧ regOk l = true ∧ OwI w.heap.size w' (.slice A l.length c) l ∧ Drawn g w w' := by
  have Z := Blk.new w 31 [.slice none 0 0]
  have hg := h.lt
  have hd0 := Drawn.start h (bl_alloc (Below.refl _ _) (.cells #[.slice none 0 0] 31))
  go_enter Try.func88, Try.ntmps88
  go_wp2_with fail
  (refine (l01Below_any g 6 _ (by decide) (by decide) hd0.1).mono ?_; rintro e w1 ⟨wd, rfl, hwd, hd1⟩; have Z1 := Z.grow hd1.2 (by omega); have hdA := Lib.hid (hd0.trans hd1); clear hd1)
  obtain ⟨W, hW⟩ : ∃ W : Nat, W = wd + 1 := ⟨_, rfl⟩
  have hWi : (1 : Int) + (wd : Int) = (W : Int) := by omega
  have hW6 : W ≤ 6 := by omega
  have hW1 : 1 ≤ W := by omega
  clear hW
  go_wp2_with fail
  (refine (l01Below_any g 5 _ (by decide) (by decide) hdA.out.1).mono ?_; rintro e w2 ⟨hd, rfl, hhd, hd2⟩; have Z2 := Z1.grow hd2.2 (by omega); have hdB := Lib.hid (hdA.out.trans hd2); clear hd2 hdA)
  obtain ⟨H, hH⟩ : ∃ H : Nat, H = hd + 1 := ⟨_, rfl⟩
  have hHi : (1 : Int) + (hd : Int) = (H : Int) := by omega
  have hH5 : H ≤ 5 := by omega
  have hH1 : 1 ≤ H := by omega
  have hlen := Lib.hid (show (rectR (W : Int) (H : Int)).length = H by
    have h1 : inB (W : Int) 1 8 = true := inB_true.2 ⟨by omega, by omega⟩
    have h2 : inB (H : Int) 1 8 = true := inB_true.2 ⟨by omega, by omega⟩
    simp [rectR, h1, h2])
  clear hH hd0 Z Z1
  go_wp2_with fail
  (refine (Rectangle_s (W : Int) (H : Int) _).mono ?_; rintro e w3 ⟨A3, c3, rfl, o3, hb3⟩; rw [hlen.out] at o3 ⊢; have O3 := Lib.hid o3; have Z3 := Z2.bel hb3; have hdC := Lib.hid (hdB.out.bel hb3); have hs3 := hb3.size; have hz2 := Z2.lt; clear o3 hb3 hdB Z2)
  have rw0 : RW g w.heap.size w3.heap.size H c3 A3 w (w3.alloc (.cells #[.slice A3 H c3] 31)) (rectR (W : Int) (H : Int)) :=
    ⟨hdC.out.1.bel (Below.alloc (Below.refl _ _) (Nat.le_refl _) _), hg, Nat.le_refl _, by omega, (O3.out.bel (Below.alloc (Below.refl _ _) (Nat.le_refl _) _)).mono (by omega), hlen.out, rectR_ok _ _, Blk.new w3 _ _, Z3.alloc _, grown_trans hdC.out.2 (grown_of_bel (Below.alloc (Below.refl _ _) (Nat.le_refl _) _) _)⟩
  have HZ := Lib.hid rw0.z0
  have hr5 : w.heap.size < w3.heap.size := by omega
  clear O3 Z3 hdC hlen
  go_wp2_with fail
  (refine (l01Below_any g 5 _ (by decide) (by decide) rw0.cur).mono ?_; rintro e w4 ⟨kk, rfl, hkk, hd4⟩; have RW4 := Lib.hid (rw0.draw hd4); clear rw0 hd4)
  go_wp2_with fail
  go_loopw [6] (fun q wr => ∃ (k : Nat) (l : List Int), k ≤ 4 ∧ q = .int .i64 (k : Int) ∧ RW g w.heap.size w3.heap.size H c3 A3 w wr l) (fun q _ => (intOf q).toNat)
  case atStart => exact ⟨kk, _, by omega, rfl, RW4.out⟩
  case round =>
    obtain ⟨k, l, hk, rfl, hR⟩ := hrel
    clear RW4
    by_cases hk0 : 0 < k
    · have q0 : decide ((k : Int) > 0) = true := decide_eq_true (by omega)
      go_wp2_with fail
      (refine (l01Below_any g H _ hH1 (by omega) hR.cur).mono ?_; rintro e w5 ⟨y, rfl, hy, hd5⟩; have hR5 := hR.draw hd5; clear hd5 hR)
      go_wp2_with fail
      (refine (l01Below_any g W _ hW1 (by omega) hR5.cur).mono ?_; rintro e w6 ⟨x, rfl, hx, hd6⟩; have hR6 := hR5.draw hd6; clear hd6 hR5)
      have Vc := hR6.var.c1
      obtain ⟨b, hA, fb, ⟨u, hu, cu⟩, hput⟩ := hR6.put hy
      have hbt := i64_bit u x (by omega)
      have hx0 : (0 : Int) ≤ (x : Int) := by omega
      have hy0 : (0 : Int) ≤ (y : Int) := by omega
      have hyH : (y : Int) < (H : Int) := by omega
      subst hA
      have Hput := Lib.hid hput
      have HR6 := Lib.hid hR6
      clear hput hR6
      cases hb : u.testBit x
      · rw [hb] at hbt
        go_wp2_with fail
        go_roundw
        case rel => exact ⟨k - 1, l, by omega, by go_num, HR6.out⟩
        case measure => simp [intOf]; omega
      · rw [hb] at hbt
        obtain ⟨q, hq⟩ : ∃ q : Nat, q = 2 ^ x := ⟨_, rfl⟩
        have hqu : q ≤ u := by
          rcases Nat.lt_or_ge u q with h1 | h1
          · rw [hq] at h1
            rw [Nat.testBit_lt_two_pow h1] at hb; cases hb
          · exact h1
        have hp : (2 : Int) ^ x = (q : Int) := by rw [hq]; simp
        have hw2 : IntKind.i64.wrap ((2 : Int) ^ x) = (q : Int) := by rw [hp]; exact IntWalk.i64_in _ (by omega)
        have hw3 : IntKind.i64.wrap ((u : Int) - (q : Int)) = ((u - q : Nat) : Int) := by rw [show ((u - q : Nat) : Int) = (u : Int) - (q : Int) by omega]; exact IntWalk.i64_in _ (by omega)
        have HRn := Lib.hid ((Hput.out ((u - q : Nat) : Int) (by omega) (by omega)).bel (bl_drew (Below.refl _ _)))
        have Hq := Lib.hid hq
        clear hq hp hb
        go_wp2_with fail
        go_still_tail 12, (by kernel_rfl)
        go_wp2_with fail
        go_roundw
        case rel => exact ⟨k - 1, _, by omega, by go_num, HRn.out⟩
        case measure => simp [intOf]; omega
    · obtain rfl : k = 0 := by omega
      have q0 : decide (((0 : Nat) : Int) > 0) = false := by decide
      by_cases hW5 : W < 6
      · have q1 : decide ((W : Int) < 6) = true := decide_eq_true (by omega)
        go_wp2_with fail
        (refine (l01Once_any g 3 _ (by decide) (by decide) hR.cur).mono ?_; rintro e w7 ⟨bb, rfl, hd7⟩; have hR7 := hR.draw hd7; clear hd7 hR)
        cases bb
        · have Vc := hR7.var.c1
          have Rf := hR7.res.frozen 0
          have Rc := hR7.res.c1
          have HR7 := Lib.hid hR7
          clear hR7
          go_wp2_with fail
          exact bodyPost_ret (res_region rfl rfl HR7.out.fin.1) rfl ⟨A3, l, c3, by rw [HR7.out.len], HR7.out.ok, HR7.out.fin.2.1, HR7.out.fin.2.2⟩
        · go_wp2_with fail
          (refine (l01Below_any g H _ hH1 (by omega) hR7.cur).mono ?_; rintro e w8 ⟨y, rfl, hy, hd8⟩; have hR8 := hR7.draw hd8; clear hd8 hR7)
          have Vc := hR8.var.c1
          obtain ⟨b, hA, fb, ⟨u, hu, cu⟩, hput⟩ := hR8.put hy
          have hy0 : (0 : Int) ≤ (y : Int) := by omega
          have hyH : (y : Int) < (H : Int) := by omega
          subst hA
          obtain ⟨q, hq⟩ : ∃ q : Nat, q = 3 * 2 ^ W := ⟨_, rfl⟩
          have hq255 : q ≤ 255 := by
            have : 2 ^ W ≤ 2 ^ 5 := Nat.pow_le_pow_right (by decide) (by omega)
            omega
          have hp : 3 * (2 : Int) ^ W = (q : Int) := by rw [hq]; push_cast; rfl
          have hw2 : IntKind.i64.wrap (3 * (2 : Int) ^ W) = (q : Int) := by rw [hp]; exact IntWalk.i64_in _ (by omega)
          have hor : bits .or .i64 (u : Int) (q : Int) = ((u ||| q : Nat) : Int) := i64_or_natR u q (by omega) (by omega)
          have hor2 : u ||| q ≤ 255 := by
            have : u ||| q < 2 ^ 8 := Nat.or_lt_two_pow (by omega) (by omega)
            omega
          have hRn := (hput ((u ||| q : Nat) : Int) (by omega) (by omega)).bel (bl_drew (Below.refl _ _))
          have Vc2 := hRn.var.c1
          have Rf := hRn.res.frozen 0
          have Rc := hRn.res.c1
          have HRn := Lib.hid hRn
          clear hq hp hput hRn hR8
          go_wp2_with fail
          go_still_tail 12, (by kernel_rfl)
          go_wp2_with fail
          exact bodyPost_ret (res_region rfl rfl HRn.out.fin.1) rfl ⟨_, _, c3, by rw [HRn.out.len], HRn.out.ok, HRn.out.fin.2.1, HRn.out.fin.2.2⟩
      · have q1 : decide ((W : Int) < 6) = false := decide_eq_false (by omega)
        have Vc := hR.var.c1
        have Rf := hR.res.frozen 0
        have Rc := hR.res.c1
        have HR := Lib.hid hR
        clear hR
        go_wp2_with fail
        exact bodyPost_ret (res_region rfl rfl HR.out.fin.1) rfl ⟨A3, l, c3, by rw [HR.out.len], HR.out.ok, HR.out.fin.2.1, HR.out.fin.2.2⟩
end Go.Proofs.Ytdcjhfmkkcakhaa

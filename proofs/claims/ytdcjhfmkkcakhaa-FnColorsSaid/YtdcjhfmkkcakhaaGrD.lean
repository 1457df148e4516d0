/-
  The reference's draw of dominoes laid one after the other (l06Greedy): they are valid and no two overlap. The cursor alone is written. No condition.
-/
import Derived.Test.YtdcjhfmkkcakhaaDrawR
import Derived.Test.YtdcjhfmkkcakhaaLay
import Derived.Test.YtdcjhfmkkcakhaaRows2
import Derived.Deep.RegionHeld3
namespace Go.Proofs.Ytdcjhfmkkcakhaa
open Go.ChangeShapes Go.WideShapes Go.ChangeAt Go.RowKit Go.Deep
set_option linter.unusedVariables false

def Dis (l : List Dm) : Prop := (∀ d ∈ l, okD d = true) ∧ ∀ k < l.length, ∀ i < k, ovlAt l i k = false
theorem ownD_bit (d : Dm) (i : Nat) : (ownD d).testBit i = (decide ((d.2.1 * 8 + d.1).toNat = i) || decide ((sndY d.2.1 d.2.2 * 8 + sndX d.1 d.2.2).toNat = i)) := by
  unfold ownD setD
  rw [Nat.testBit_or, nthBit_test, nthBit_test]
theorem Dis.snoc {l : List Dm} {d : Dm} (h : Dis l) (hd : okD d = true) (ha : (covers l).testBit (idxN (d.1, d.2.1)) = false) (hb : (covers l).testBit (idxN (sndX d.1 d.2.2, sndY d.2.1 d.2.2)) = false) : Dis (l ++ [d]) := by
  refine ⟨fun e he => ?_, fun k hk i hi => ?_⟩
  · rcases List.mem_append.1 he with he | he
    · exact h.1 e he
    · simp at he; subst he; exact hd
  · rw [List.length_append, List.length_singleton] at hk
    have hil : i < l.length := by omega
    have ei : dAt (l ++ [d]) i = l[i] := dAt_eq (by rw [List.getElem?_append_left hil, List.getElem?_eq_getElem hil])
    by_cases hkl : k < l.length
    · have := h.2 k hkl i hi
      unfold ovlAt at this ⊢
      have ek : dAt (l ++ [d]) k = dAt l k := by unfold dAt; rw [List.getElem?_append_left hkl]
      have ei2 : dAt (l ++ [d]) i = dAt l i := by unfold dAt; rw [List.getElem?_append_left hil]
      rw [ek, ei2]; exact this
    · obtain rfl : k = l.length := by omega
      have ek : dAt (l ++ [d]) l.length = d := dAt_eq (by simp)
      unfold ovlAt
      rw [ek, ei]
      obtain ⟨e, he⟩ : ∃ e, e = l[i] := ⟨_, rfl⟩
      rw [← he]
      have hm : e ∈ l := by rw [he]; exact List.getElem_mem hil
      have hok := h.1 e hm
      cases ho : ovl e.1 e.2.1 e.2.2 d.1 d.2.1 d.2.2 with
      | false => rfl
      | true =>
        exfalso
        rw [← ovl_set hok hd] at ho
        have hne : setD e.1 e.2.1 e.2.2 &&& setD d.1 d.2.1 d.2.2 ≠ 0 := by
          intro e0; rw [e0] at ho; simp at ho
        obtain ⟨j, hj⟩ := Nat.exists_testBit_of_ne_zero hne
        rw [Nat.testBit_and, Bool.and_eq_true] at hj
        have hcov : (covers l).testBit j = true := by rw [covers_bit]; exact decide_eq_true ⟨e, hm, hok, hj.1⟩
        have h2 : (ownD d).testBit j = true := hj.2
        rw [ownD_bit, Bool.or_eq_true, decide_eq_true_eq, decide_eq_true_eq] at h2
        rcases h2 with h2 | h2
        · rw [← h2] at hcov; unfold idxN at ha; rw [hcov] at ha; cases ha
        · rw [← h2] at hcov; unfold idxN at hb; rw [hcov] at hb; cases hb
theorem Dis.nil : Dis [] := ⟨by simp, by simp⟩
theorem Dis.apart {l : List Dm} (h : Dis l) (hl : l.length ≤ 18) : apart l = true := by
  rw [apart_iff]
  refine ⟨?_, h.2⟩
  unfold few allOk
  rw [Bool.and_eq_true, decide_eq_true_eq, List.all_eq_true]
  exact ⟨h.1, hl⟩
theorem Dis.take {l : List Dm} (h : Dis l) (n : Nat) : Dis (l.take n) := by
  refine ⟨fun d hd => h.1 d (List.mem_of_mem_take hd), fun k hk i hi => ?_⟩
  rw [List.length_take] at hk
  have := h.2 k (by omega) i hi
  unfold ovlAt dAt at this ⊢
  rw [List.getElem?_take, List.getElem?_take, if_pos (by omega), if_pos (by omega)]
  exact this
theorem OwD.setFar {B : Nat} {w : World} {v : Value} {l : List Dm} (h : OwD B w v l) {b i : Nat} (hp : ∀ k, v.ownBlock = some k → k ≠ b) (u : Value) : OwD B (w.setCell ⟨b, i, none⟩ u) v l :=
  ⟨h.1, ownsRow_loc h.2.1 (fun k hk _ => Below.heap_setCell w ⟨b, i, none⟩ u k (hp k hk)), h.2.2⟩
theorem OwD.row_ {B : Nat} {w : World} {v : Value} {l : List Dm} (h : OwD B w v l) : ∀ k, v.ownBlock = some k → ∃ cur fr, w.heap[k]? = some (.cells cur 53 fr) := by
  intro k hk
  rcases h.2.1.2 with ⟨e, _⟩ | ⟨g, cap, cur, e, _, hg, _⟩
  · subst e; cases hk
  · subst e
    injection hk with hk
    subst hk
    exact ⟨_, _, hg⟩
theorem HasCell_b (A : Option Addr) (c : Nat) (l : List Int) (x y : Int) (w : World) (hl : l.length ≤ 1048576) (hr : RdI w A l) (hreg : regOk l = true) (hc : cellOk x y = true) (b : Bool) (hb : (regSet l).testBit (idxN (x, y)) = b) :
    Calls Try.prog 84 #[.agg #[.slice A l.length c], .agg #[.int .i64 x, .int .i64 y]] w fun e w' => e = .returned (.bool b) ∧ Below w.heap.size w w' :=
  (HasCell_s A c l x y w hl hr).mono fun e w' h => ⟨h.1.trans (by rw [HasCell_bit hreg hc, hb]), h.2⟩
theorem Cur.belB {w w' : World} {g B : Nat} (h : Cur w g) (hb : Below B w w') (hg : g < B) : Cur w' g := by
  obtain ⟨A, c, l, i, x, h1, ⟨⟨h2, h3⟩, h4⟩, h5, h6⟩ := h
  refine ⟨A, c, l, i, x, h1.below hb hg, ⟨⟨h2, fun hn => ?_⟩, h4⟩, h5, h6⟩
  obtain ⟨b, off, e, hlt, hc⟩ := h3 hn
  have hbg : b < g := h5 hn _ e
  refine ⟨b, off, e, Nat.lt_of_lt_of_le hlt hb.size, fun j u hu => ?_⟩
  have := hc j u hu
  have hh := hb.block b (by omega)
  simp only [World.cell?, hh] at this ⊢
  exact this
/-- what l06Greedy keeps -/
structure GW (g n c Nc cc : Nat) (A Ac : Option Addr) (rs : List Int) (w0 w : World) (v : Value) (out : List Dm) : Prop where
  cur : Cur w g
  gl : g < w0.heap.size
  par : Blk w w0.heap.size 31 [.slice A n c]
  rows : OwI 0 w (.slice A n c) rs
  cells : OwC (w0.heap.size + 1) w (.slice Ac Nc cc) (regCells rs)
  out : OwD (w0.heap.size + 1) w v out
  grown : w0.grownBy w (some g)
section
variable {g n c Nc cc : Nat} {A Ac : Option Addr} {rs : List Int} {w0 w w1 : World} {v : Value} {out : List Dm}
theorem GW.draw (h : GW g n c Nc cc A Ac rs w0 w v out) (hd : Drawn g w w1) : GW g n c Nc cc A Ac rs w0 w1 v out :=
  ⟨hd.1, h.gl, h.par.grow hd.2 (by have := h.gl; omega), h.rows.drawn h.cur hd.2, ⟨h.cells.1, h.cells.2.1.kept hd.2 (own_apart h.cells.2.1 (by decide) h.cur.typ), h.cells.2.2⟩, ⟨h.out.1, h.out.2.1.kept hd.2 (own_apart h.out.2.1 (by decide) h.cur.typ), h.out.2.2⟩, grown_trans h.grown hd.2⟩
theorem GW.bel (h : GW g n c Nc cc A Ac rs w0 w v out) (hb : Below w.heap.size w w1) : GW g n c Nc cc A Ac rs w0 w1 v out := h.draw (Drawn.start h.cur hb)
theorem GW.cell (h : GW g n c Nc cc A Ac rs w0 w v out) {b off k : Nat} (hA : Ac = some ⟨b, off, none⟩) {x y : Int} (hk : (regCells rs)[k]? = some (x, y)) : w.cell? ⟨b, off + k * 2, none⟩ = some (.int .i64 x) ∧ w.cell? ⟨b, off + k * 2 + 1, none⟩ = some (.int .i64 y) := by
  have hlt := (List.getElem?_eq_some_iff.1 hk).1
  obtain ⟨b', off', x', y', e, _, hx, _, _, _, c1, c2⟩ := h.cells.rd.at_ hlt
  rw [hA] at e
  injection e with e
  injection e with e1 e2
  subst e1; subst e2
  rw [hk] at hx
  injection hx with hx
  injection hx with h1 h2
  subst h1; subst h2
  exact ⟨c1, c2⟩
/-- a store into a domino of its own -/
theorem GW.set {xs : List Value} (h : GW g n c Nc cc A Ac rs w0 w v out) {b i : Nat} (hb : w0.heap.size < b) (ht : Blk w b 53 xs) (hv : ∀ k, v.ownBlock = some k → k ≠ b) (u : Value) : GW g n c Nc cc A Ac rs w0 (w.setCell ⟨b, i, none⟩ u) v out := by
  have hgl := h.gl
  have hty : ∀ k, some b = some k → ∃ cur fr, w.heap[k]? = some (.cells cur 53 fr) := fun k hk => by injection hk with hk; subst hk; exact ⟨_, _, ht⟩
  have hgr : w.grownBy (w.setCell ⟨b, i, none⟩ u) (some b) := grown_setc
  exact ⟨h.cur.set_ (by omega), h.gl, h.par.farN _ _ (by omega) _, ⟨h.rows.1, h.rows.2.1.kept hgr (own_apart h.rows.2.1 (by decide) hty), h.rows.2.2⟩, ⟨h.cells.1, h.cells.2.1.kept hgr (own_apart h.cells.2.1 (by decide) hty), h.cells.2.2⟩, h.out.setFar hv u,
    ⟨h.grown.os, h.grown.tape, h.grown.output, by simpa using h.grown.size, fun k hk hne => (Below.heap_setCell w ⟨b, i, none⟩ u k (by show k ≠ b; omega)).trans (h.grown.block k hk hne)⟩⟩
/-- an append to the dominoes -/
theorem GW.app {v' : Value} {out' : List Dm} (h : GW g n c Nc cc A Ac rs w0 w v out) (hb : Below (w0.heap.size + 1) w w1) (hg : w.grownBy w1 v.ownBlock) (ho : OwD (w0.heap.size + 1) w1 v' out') : GW g n c Nc cc A Ac rs w0 w1 v' out' := by
  have hgl := h.gl
  refine ⟨h.cur.belB hb (by omega), h.gl, h.par.below hb (by omega), ⟨h.rows.1, h.rows.2.1.kept hg (own_apart h.rows.2.1 (by decide) h.out.row_), h.rows.2.2⟩, ⟨h.cells.1, h.cells.2.1.kept hg (own_apart h.cells.2.1 (by decide) h.out.row_), h.cells.2.2⟩, ho, ?_⟩
  exact ⟨hb.os.trans h.grown.os, hb.tape.trans h.grown.tape, hb.output.trans h.grown.output, Nat.le_trans h.grown.size hb.size, fun k hk hne => (hb.block k (by omega)).trans (h.grown.block k hk hne)⟩
theorem GW.ne (h : GW g n c Nc cc A Ac rs w0 w v out) {b : Nat} (hb : w.heap.size ≤ b) : ∀ q, v.ownBlock = some q → q ≠ b := by
  intro q hq
  obtain ⟨cur, fr, e⟩ := h.out.row_ q hq
  have := (Array.getElem?_eq_some_iff.1 e).1
  omega
end
theorem Drawn.gr {g : Nat} {w w' : World} (h : Drawn g w w') : w.grownBy w' (some g) := h.2
theorem l01Once_two (g : Nat) (w : World) (h : Cur w g) :
    Calls Try.prog 172 #[.pointer (some ⟨g, 0, none⟩), .int .i64 2] w fun e w' => ∃ b : Bool, e = .returned (.bool b) ∧ Drawn g w w' := l01Once_any g 2 w (by decide) (by decide) h
set_option maxRecDepth 100000 in
set_option maxHeartbeats 4000000 in
theorem l06Greedy_any (g : Nat) (A : Option Addr) (c : Nat) (rs : List Int) (w : World) (h : Cur w g) (hok : regOk rs = true) (hr : OwI 0 w (.slice A rs.length c) rs) :
    Calls Try.prog 195 #[.pointer (some ⟨g, 0, none⟩), .agg #[.slice A rs.length c]] w fun e w' => ∃ (v : Value) (l : List Dm), e = .returned v ∧ OwD w.heap.size w' v l ∧ Dis l ∧ l.length ≤ 64 ∧ Drawn g w w' := by
  have hgl := h.lt
  have hrl : rs.length ≤ 1048576 := by have := (regOk_iff.1 hok).1; omega
  have hb1 := bl_alloc (Below.refl w.heap.size w) (.cells #[.slice A rs.length c] 31)
  have hb2 := bl_alloc hb1 (.cells #[] 53)
  have P := (Blk.new w 31 [.slice A rs.length c]).alloc (.cells #[] 53)
  have Pc := P.c1
  have hr2 := hr.bel hb2
  have ho : OwD (w.heap.size + 1) ((w.alloc (.cells #[.slice A rs.length c] 31)).alloc (.cells #[] 53)) (.slice (some ⟨w.heap.size + 1, 0, none⟩) 0 0) [] := by
    have := OwD.new_ (B := w.heap.size + 1) (w := w.alloc (.cells #[.slice A rs.length c] 31)) (by rw [World.size_alloc]; exact Nat.le_refl _)
    rwa [World.size_alloc] at this
  have Hr2 := Lib.hid hr2
  have Ho := Lib.hid ho
  have Hr := Lib.hid hr
  have hsz2 : w.heap.size + 1 ≤ ((w.alloc (.cells #[.slice A rs.length c] 31)).alloc (.cells #[] 53)).heap.size := by rw [World.size_alloc, World.size_alloc]; omega
  clear ho hr2 hr
  go_enter Try.func195, Try.ntmps195
  go_wp2_with fail
  (refine (CellsOf_s A c rs _ hrl Hr2.out.rd).mono ?_; rintro e w1 ⟨v6, rfl, o6, hb6⟩; obtain ⟨⟨Ac, cc, rfl⟩, _⟩ := id o6; have gw : GW g rs.length c (regCells rs).length cc A Ac rs w w1 (.slice (some ⟨w.heap.size + 1, 0, none⟩) 0 0) [] := ⟨(h.bel hb2).bel hb6, hgl, P.bel hb6, Hr2.out.bel hb6, o6.mono hsz2, Ho.out.bel hb6, grown_of_bel (bl_trans hb2 hb6) _⟩; have Gw := Lib.hid gw; clear gw o6 hb6)
  obtain ⟨N, hN⟩ : ∃ N, N = (regCells rs).length := ⟨_, rfl⟩
  have hN64 : N ≤ 64 := by rw [hN]; exact regCells_len rs
  have HN := Lib.hid hN
  rw [← hN] at Gw ⊢
  clear hN hb1 hb2 P Pc Hr2 Ho hsz2
  go_wp2_with fail
  go_loopw [5, 7] (fun v q wr => ∃ (k : Nat) (out : List Dm), k ≤ N ∧ q = .int .i64 (k : Int) ∧ GW g rs.length c N cc A Ac rs w wr v out ∧ Dis out ∧ out.length ≤ k) (fun _ q _ => N - (intOf q).toNat)
  case atStart => exact ⟨0, [], by omega, rfl, Gw.out, Dis.nil, by simp⟩
  case round =>
    obtain ⟨k, out, hk, rfl, gw, hdis, hol⟩ := hrel
    clear Gw
    obtain ⟨⟨Ao, co, rfl⟩, _⟩ := id gw.out
    by_cases hlt : k < N
    · obtain ⟨b, off, x, y, hA, hbl, hxy, _, _, _, cx, cy⟩ := gw.cells.rd.at_ (k := k) (by rw [← HN.out]; exact hlt)
      have hcell : cellOk x y = true := regCells_ok (List.mem_of_getElem? hxy)
      have hc7 := cellOk_iff.1 hcell
      subst hA
      obtain ⟨L, hL⟩ : ∃ L, L = out.length := ⟨_, rfl⟩
      rw [← hL] at gw hol ⊢
      have HL := Lib.hid hL
      have hL2 : L ≤ 1048576 := by omega
      have Hxy := Lib.hid hxy
      have Hdis := Lib.hid hdis
      have Gw := Lib.hid gw
      obtain ⟨da, hda⟩ : ∃ da, da = domAt out (x, y) 0 := ⟨_, rfl⟩
      have Hda := Lib.hid hda
      have Hcell := Lib.hid hcell
      clear hL hxy hdis gw hda hcell
      by_cases hcov : 0 ≤ da
      · have q1 : decide (da ≥ 0) = true := decide_eq_true hcov
        go_wp2_with (go_at_call 208; go_must (refine (DominoAt_any Ao L co out x y _ HL.out hL2 Gw.out.out.rd).mono ?_; rintro e w2 ⟨rfl, hb2⟩; rw [← Hda.out]; have Gw2 := Lib.hid (Gw.out.bel hb2); clear hb2))
        go_roundw
        case rel => exact ⟨k + 1, out, by omega, by go_num, Gw2.out, Hdis.out, by rw [← HL.out]; omega⟩
        case measure => simp [intOf]; omega
      · have q1 : decide (da ≥ 0) = false := decide_eq_false hcov
        obtain ⟨wo, rfl⟩ : ∃ wo : World, wo = wr := ⟨_, rfl⟩
        go_upto_region 7 with (go_at_call 208; go_must (refine (DominoAt_any Ao L co out x y _ HL.out hL2 Gw.out.out.rd).mono ?_; rintro e w2 ⟨rfl, hb2⟩; rw [← Hda.out]; have Gw2 := Lib.hid (Gw.out.bel hb2); clear hb2))
        have hcov2 := (domAt_neg (c := (x, y)) Hcell.out out 0 (by omega)).1 (by rw [← Hda.out]; omega)
        have Hcov := Lib.hid hcov2
        obtain ⟨cx2, cy2⟩ := Gw2.out.cell rfl Hxy.out
        have hgs := Gw2.out.par.lt
        clear Gw cx cy hcov2 q1 hcov Hda
        go_cut [8] from 27 to 39 (fun s8 wx => ∃ (D : Nat) (bb : Bool), s8 = .pointer (some ⟨D, 0, none⟩) ∧ w.heap.size < D ∧ Blk wx D 53 [.int .i64 x, .int .i64 y, .bool bb] ∧ (∀ q, (Value.slice Ao L co).ownBlock = some q → q ≠ D) ∧ GW g rs.length c N cc A (some ⟨b, off, none⟩) rs w wx (.slice Ao L co) out)
        case first =>
          have HdA := Lib.hid (Drawn.start Gw2.out.cur (bl_drew (Below.refl w2.heap.size w2)))
          have HdB := Lib.hid (Drawn.start Gw2.out.cur (bl_drew (bl_alloc (Below.refl w2.heap.size w2) (.cells #[.int .i64 0, .int .i64 0, .bool false] 53))))
          have HcA := Lib.hid (HdA.out.1)
          have HcB := Lib.hid (HdB.out.1)
          have QN := Lib.hid ((Blk.new w2 53 [.int .i64 0, .int .i64 0, .bool false]).drew)
          obtain ⟨cxa, cya⟩ := (Gw2.out.bel (bl_alloc (Below.refl w2.heap.size w2) (.cells #[.int .i64 0, .int .i64 0, .bool false] 53))).cell rfl Hxy.out
          have hnD := Gw2.out.ne (Nat.le_refl _)
          have hgD : w2.heap.size ≠ g := by have := Gw2.out.cur.lt; omega
          go_region_held3 (fun w' => w'.cell? ⟨b, off + k * 2, none⟩ = some (.int .i64 x) ∧ w'.cell? ⟨b, off + k * 2 + 1, none⟩ = some (.int .i64 y)) (first | exact ⟨cx2, cy2⟩ | exact ⟨cxa, cya⟩ | exact ⟨kx, ky⟩ | exact ⟨kxa, kya⟩ | exact ⟨kxs, kys⟩ | go_keep)
            (first
              | (go_at_call 172; with_reducible refine (l01Once_two g (w2.alloc (.cells #[.int .i64 0, .int .i64 0, .bool false] 53)).drew HcB.out).mono ?_; go_must (rintro e w3 ⟨bb, rfl, hd3⟩; have hdd := HdB.out.trans hd3; have Gw3 := Lib.hid (Gw2.out.draw hdd); obtain ⟨kx, ky⟩ := Gw3.out.cell rfl Hxy.out; have QB := QN.out.grow (Drawn.gr hd3) hgD; have QBc := QB.c3; have QBf0 := QB.frozen 0; have QBf1 := QB.frozen 1; have QBf2 := QB.frozen 2; have Gs := Lib.hid (((Gw3.out.set (i := 0) hgs QB hnD (.int .i64 x)).set (i := 1) hgs (QB.set_ 0 (.int .i64 x)) hnD (.int .i64 y)).set (i := 2) hgs ((QB.set_ 0 (.int .i64 x)).set_ 1 (.int .i64 y)) hnD (.bool bb)); obtain ⟨kxs, kys⟩ := Gs.out.cell rfl Hxy.out; have hordB : True := trivial))
              | (go_at_call 172; with_reducible refine (l01Once_two g w2.drew HcA.out).mono ?_; rintro e w3 ⟨bb, rfl, hd3⟩; have hdd := HdA.out.trans hd3; have Gw3 := Lib.hid (Gw2.out.draw hdd); obtain ⟨kx, ky⟩ := Gw3.out.cell rfl Hxy.out; obtain ⟨kxa, kya⟩ := (Gw3.out.bel (bl_alloc (Below.refl w3.heap.size w3) (.cells #[.int .i64 0, .int .i64 0, .bool false] 53))).cell rfl Hxy.out; have hordA : True := trivial))
          all_goals (go_wp2_with fail; go_meet)
          all_goals first
            | (have ho := hordB; exact ⟨w2.heap.size, bb, rfl, hgs, ((QB.set_ 0 _).set_ 1 _).set_ 2 _, hnD, Gs.out⟩)
            | (have ho := hordA; exact ⟨w3.heap.size, bb, rfl, Gw3.out.par.lt, Blk.new w3 _ _, Gw3.out.ne (Nat.le_refl _), Gw3.out.bel (bl_alloc (Below.refl _ _) _)⟩)
        case rest =>
          obtain ⟨D, b1, rfl, hD, Q0, hne, gw0⟩ := hcut
          have Hne := Lib.hid hne
          have Gw0 := Lib.hid gw0
          clear hne gw0 Gw2 cx2 cy2 hgs
          go_wp2_with fail
          go_loopw [5, 9] (fun v q wr => ∃ (i : Nat) (bb : Bool), i ≤ 2 ∧ v = .slice Ao L co ∧ q = .int .i64 (i : Int) ∧ Blk wr D 53 [.int .i64 x, .int .i64 y, .bool bb] ∧ GW g rs.length c N cc A (some ⟨b, off, none⟩) rs w wr (.slice Ao L co) out) (fun _ q _ => 2 - (intOf q).toNat)
          case atStart => exact ⟨0, b1, by omega, rfl, rfl, Q0, Gw0.out⟩
          case round =>
            obtain ⟨i, bb, hi, rfl, rfl, Q, gw⟩ := hrel
            have Gq := Lib.hid gw
            clear Gw0 Q0 gw
            have Qc := Q.c3
            by_cases hi2 : i < 2
            · obtain ⟨sx, hsx⟩ : ∃ sx, sx = sndX x bb := ⟨_, rfl⟩
              obtain ⟨sy, hsy⟩ : ∃ sy, sy = sndY y bb := ⟨_, rfl⟩
              have Hsx := Lib.hid hsx
              have Hsy := Lib.hid hsy
              obtain ⟨wi, rfl⟩ : ∃ wi : World, wi = wr := ⟨_, rfl⟩
              cases hdo : domOk x y bb
              · clear hsx hsy
                go_wp2_with (first
                  | (go_at_call 169; go_must (refine (l05Second_any x y bb _).mono ?_; rintro e w3 ⟨rfl, hb3⟩; have gw3 := Gq.out.bel hb3; rw [← Hsx.out, ← Hsy.out]; have Gw3 := Lib.hid (gw3.bel (bl_alloc (Below.refl w3.heap.size w3) (.cells #[.int .i64 sx, .int .i64 sy] 35))); have S := Blk.new w3 35 [.int .i64 sx, .int .i64 sy]; have Sc := S.c2; replace Q := (Q.bel hb3).alloc (.cells #[.int .i64 sx, .int .i64 sy] 35); replace Qc := Q.c3; have Qf := Q.frozen 2; clear hb3 gw3 Gq))
                  | (go_at_call 168; go_must (refine (DominoOk_s x y bb _).mono ?_; rintro e w4 ⟨rfl, hbn⟩; rw [hdo]; replace Gw3 := Lib.hid (Gw3.out.bel hbn); replace Q := Q.bel hbn; replace Qc := Q.c3; replace Qf := Q.frozen 2; replace S := S.bel hbn; replace Sc := S.c2; have Pc := Gw3.out.par.c1; clear hbn)))
                go_roundw
                case rel => exact ⟨i + 1, !bb, by omega, rfl, by go_num, Q.set_ 2 _, Gw3.out.set hD Q Hne.out _⟩
                case measure => simp [intOf]; omega

              · have hc2 : cellOk sx sy = true := by
                  rw [hsx, hsy]; unfold domOk at hdo; simp only [Bool.and_eq_true] at hdo; exact hdo.2
                obtain ⟨db, hdb⟩ : ∃ db, db = domAt out (sx, sy) 0 := ⟨_, rfl⟩
                have Hdb := Lib.hid hdb
                have hcov2 := domAt_neg (c := (sx, sy)) hc2 out 0 (by omega)
                rw [← hdb] at hcov2
                have Hcov2 := Lib.hid hcov2
                clear hsx hsy hdb hcov2
                cases hbit : (regSet rs).testBit (idxN (sx, sy))
                · go_wp2_with (first
                    | (go_at_call 169; go_must (refine (l05Second_any x y bb _).mono ?_; rintro e w3 ⟨rfl, hb3⟩; have gw3 := Gq.out.bel hb3; rw [← Hsx.out, ← Hsy.out]; have Gw3 := Lib.hid (gw3.bel (bl_alloc (Below.refl w3.heap.size w3) (.cells #[.int .i64 sx, .int .i64 sy] 35))); have S := Blk.new w3 35 [.int .i64 sx, .int .i64 sy]; have Sc := S.c2; replace Q := (Q.bel hb3).alloc (.cells #[.int .i64 sx, .int .i64 sy] 35); replace Qc := Q.c3; have Qf := Q.frozen 2; clear hb3 gw3 Gq))
                    | (go_at_call 168; go_must (refine (DominoOk_s x y bb _).mono ?_; rintro e w4 ⟨rfl, hbn⟩; rw [hdo]; replace Gw3 := Lib.hid (Gw3.out.bel hbn); replace Q := Q.bel hbn; replace Qc := Q.c3; replace Qf := Q.frozen 2; replace S := S.bel hbn; replace Sc := S.c2; have Pc := Gw3.out.par.c1; clear hbn))
                    | (go_at_call 84; go_must (refine (HasCell_b A c rs sx sy _ hrl (Gw3.out.rows.rd) hok hc2 _ hbit).mono ?_; rintro e w5 ⟨rfl, hbn⟩; replace Gw3 := Lib.hid (Gw3.out.bel hbn); replace Q := Q.bel hbn; replace Qc := Q.c3; replace Qf := Q.frozen 2; replace S := S.bel hbn; replace Sc := S.c2; have Pc := Gw3.out.par.c1; clear hbn)))
                  go_roundw
                  case rel => exact ⟨i + 1, !bb, by omega, rfl, by go_num, Q.set_ 2 _, Gw3.out.set hD Q Hne.out _⟩
                  case measure => simp [intOf]; omega

                · by_cases hd0 : db < 0
                  · have q1 : decide (db < 0) = true := decide_eq_true hd0
                    have hol2 : out.length ≤ 1048576 := by rw [← HL.out]; omega
                    have hxI : I64 x := ⟨by omega, by omega⟩
                    have hyI : I64 y := ⟨by omega, by omega⟩
                    have Hds := Lib.hid (Hdis.out.snoc (d := (x, y, bb)) hdo Hcov.out (by have := Hcov2.out.1 hd0; rw [Hsx.out, Hsy.out] at this; exact this))
                    go_wp2_with (first
                      | (go_at_call 169; go_must (refine (l05Second_any x y bb _).mono ?_; rintro e w3 ⟨rfl, hb3⟩; have gw3 := Gq.out.bel hb3; rw [← Hsx.out, ← Hsy.out]; have Gw3 := Lib.hid (gw3.bel (bl_alloc (Below.refl w3.heap.size w3) (.cells #[.int .i64 sx, .int .i64 sy] 35))); have S := Blk.new w3 35 [.int .i64 sx, .int .i64 sy]; have Sc := S.c2; replace Q := (Q.bel hb3).alloc (.cells #[.int .i64 sx, .int .i64 sy] 35); replace Qc := Q.c3; have Qf := Q.frozen 2; clear hb3 gw3 Gq))
                      | (go_at_call 168; go_must (refine (DominoOk_s x y bb _).mono ?_; rintro e w4 ⟨rfl, hbn⟩; rw [hdo]; replace Gw3 := Lib.hid (Gw3.out.bel hbn); replace Q := Q.bel hbn; replace Qc := Q.c3; replace Qf := Q.frozen 2; replace S := S.bel hbn; replace Sc := S.c2; have Pc := Gw3.out.par.c1; clear hbn))
                      | (go_at_call 84; go_must (refine (HasCell_b A c rs sx sy _ hrl (Gw3.out.rows.rd) hok hc2 _ hbit).mono ?_; rintro e w5 ⟨rfl, hbn⟩; replace Gw3 := Lib.hid (Gw3.out.bel hbn); replace Q := Q.bel hbn; replace Qc := Q.c3; replace Qf := Q.frozen 2; replace S := S.bel hbn; replace Sc := S.c2; have Pc := Gw3.out.par.c1; clear hbn))
                      | (go_at_call 208; go_must (refine (DominoAt_any Ao L co out sx sy _ HL.out hL2 Gw3.out.out.rd).mono ?_; rintro e w6 ⟨rfl, hbn⟩; rw [← Hdb.out]; replace Gw3 := Lib.hid (Gw3.out.bel hbn); replace Q := Q.bel hbn; replace Qc := Q.c3; replace Qf := Q.frozen 2; replace S := S.bel hbn; replace Sc := S.c2; have Pc := Gw3.out.par.c1; clear hbn))
                      | (at_builtin; refine wpList_atD rfl (.tmp 59) (.tmp 61) rfl (w.heap.size + 1) (.slice Ao L co) out x y bb rfl rfl Gw3.out.out Gw3.out.par.lt hol2 hxI hyI ?_; intro v' w7 ho1 hb1 hg1 hat1 hsz1; have Gw7 := Lib.hid (Gw3.out.app (hb1 _ (Below.refl _ _)) hg1 ho1); clear ho1 hb1 hg1 hat1 hsz1))
                    go_roundw
                    case rel => exact ⟨k + 1, out ++ [(x, y, bb)], by omega, by go_num, Gw7.out, Hds.out, by rw [List.length_append, ← HL.out]; simp; omega⟩
                    case measure => simp [intOf]; omega
                  · have q1 : decide (db < 0) = false := decide_eq_false hd0
                    go_wp2_with (first
                      | (go_at_call 169; go_must (refine (l05Second_any x y bb _).mono ?_; rintro e w3 ⟨rfl, hb3⟩; have gw3 := Gq.out.bel hb3; rw [← Hsx.out, ← Hsy.out]; have Gw3 := Lib.hid (gw3.bel (bl_alloc (Below.refl w3.heap.size w3) (.cells #[.int .i64 sx, .int .i64 sy] 35))); have S := Blk.new w3 35 [.int .i64 sx, .int .i64 sy]; have Sc := S.c2; replace Q := (Q.bel hb3).alloc (.cells #[.int .i64 sx, .int .i64 sy] 35); replace Qc := Q.c3; have Qf := Q.frozen 2; clear hb3 gw3 Gq))
                      | (go_at_call 168; go_must (refine (DominoOk_s x y bb _).mono ?_; rintro e w4 ⟨rfl, hbn⟩; rw [hdo]; replace Gw3 := Lib.hid (Gw3.out.bel hbn); replace Q := Q.bel hbn; replace Qc := Q.c3; replace Qf := Q.frozen 2; replace S := S.bel hbn; replace Sc := S.c2; have Pc := Gw3.out.par.c1; clear hbn))
                      | (go_at_call 84; go_must (refine (HasCell_b A c rs sx sy _ hrl (Gw3.out.rows.rd) hok hc2 _ hbit).mono ?_; rintro e w5 ⟨rfl, hbn⟩; replace Gw3 := Lib.hid (Gw3.out.bel hbn); replace Q := Q.bel hbn; replace Qc := Q.c3; replace Qf := Q.frozen 2; replace S := S.bel hbn; replace Sc := S.c2; have Pc := Gw3.out.par.c1; clear hbn))
                      | (go_at_call 208; go_must (refine (DominoAt_any Ao L co out sx sy _ HL.out hL2 Gw3.out.out.rd).mono ?_; rintro e w6 ⟨rfl, hbn⟩; rw [← Hdb.out]; replace Gw3 := Lib.hid (Gw3.out.bel hbn); replace Q := Q.bel hbn; replace Qc := Q.c3; replace Qf := Q.frozen 2; replace S := S.bel hbn; replace Sc := S.c2; have Pc := Gw3.out.par.c1; clear hbn)))
                    go_roundw
                    case rel => exact ⟨i + 1, !bb, by omega, rfl, by go_num, Q.set_ 2 _, Gw3.out.set hD Q Hne.out _⟩
                    case measure => simp [intOf]; omega

            · obtain rfl : i = 2 := by omega
              go_wp2_with fail
              go_roundw
              case rel => exact ⟨k + 1, out, by omega, by go_num, Gq.out, Hdis.out, by rw [← HL.out]; omega⟩
              case measure => simp [intOf]; omega
    · obtain rfl : k = N := by omega
      have Gw := Lib.hid gw
      clear gw
      go_wp2_with fail
      go_ret
      exact ⟨_, out, rfl, Gw.out.out.mono (Nat.le_succ _), hdis, by omega, Gw.out.cur, Gw.out.grown⟩
end Go.Proofs.Ytdcjhfmkkcakhaa

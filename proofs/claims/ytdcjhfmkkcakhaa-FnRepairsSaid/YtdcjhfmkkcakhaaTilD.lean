/-
  The draws of tilings (l08Tiling, DrawTiling of the reference). No condition but the size of the bytes.
-/
import Derived.Test.YtdcjhfmkkcakhaaL08
import Derived.Test.YtdcjhfmkkcakhaaTilR
import Derived.StillTailTactics
import Derived.Deep.RegionHeld3
import Derived.Deep.RegionWith
namespace Go.Proofs.Ytdcjhfmkkcakhaa
open Go.ChangeShapes Go.WideShapes Go.ChangeAt Go.RowKit Go.Deep
set_option linter.unusedVariables false

theorem res_regt {fn : Func} {s s2 g : Nat} (hres : fn.results = #[.cell s 31, .tmp s2]) {tmps : Array Value} {w : World} {a v : Value}
    (h1 : tmps.getD s undef = .pointer (some ⟨g, 0, none⟩)) (h2 : tmps.getD s2 undef = v) (B : Blk w g 31 [a]) : (results fn tmps).run Try.prog w = .ok (.tuple #[.agg #[a], v]) w := by
  have c1 := B.c1
  simp only [Array.getD_eq_getD_getElem?] at h1 h2
  simp [results, hres, h1, h2, go_sem, c1]
theorem OwD.drawn {B g : Nat} {w w' : World} {v : Value} {l : List Dm} (h : OwD B w v l) (hc : Cur w g) (hg : w.grownBy w' (some g)) : OwD B w' v l := ⟨h.1, h.2.1.kept hg (own_apart h.2.1 (by decide) hc.typ), h.2.2⟩
theorem OwDD.drawn {B g : Nat} {w w' : World} {v : Value} {ll : List (List Dm)} (h : OwDD B w v ll) (hc : Cur w g) (hg : w.grownBy w' (some g)) : OwDD B w' v ll := by
  obtain ⟨hf, vs, h1, h2⟩ := h
  exact ⟨hf, vs, h1.kept hg (own_apart h1 (by decide) hc.typ), fun i l hl => by obtain ⟨u, hu, ho⟩ := h2 i l hl; exact ⟨u, hu, OwD.drawn ho hc hg⟩⟩
theorem cell_far8 {w : World} {b o b' i : Nat} {v : Value} (h : w.cell? ⟨b, o, none⟩ = some v) (hne : b ≠ b') (u : Value) : (w.setCell ⟨b', i, none⟩ u).cell? ⟨b, o, none⟩ = some v := by
  have hh := Below.heap_setCell w ⟨b', i, none⟩ u b hne
  simp only [World.cell?, hh] at h ⊢
  exact h
theorem lt_len {n x : Nat} {l : List (List Dm)} (h : n = l.length) (hx : x < n) : x < l.length := h ▸ hx
theorem OwDD.at_ {B : Nat} {w : World} {A : Option Addr} {n c : Nat} {ll : List (List Dm)} (h : OwDD B w (.slice A n c) ll) {k : Nat} (hk : k < ll.length) :
    ∃ b off l A' c', A = some ⟨b, off, none⟩ ∧ b < w.heap.size ∧ ll[k]? = some l ∧ OwD 0 w (.slice A' l.length c') l ∧ w.cell? ⟨b, off + k, none⟩ = some (.slice A' l.length c') := by
  obtain ⟨⟨A', c', e⟩, vs, h1, h2⟩ := h
  injection e with e1 e2 e3
  subst e2
  have hx : ll[k]? = some ll[k] := List.getElem?_eq_getElem hk
  obtain ⟨b, off, e, hlt, hc⟩ := (Rd.of_own h1).2 (by omega)
  obtain ⟨u, hu, ho⟩ := h2 k _ hx
  obtain ⟨A'', c'', rfl⟩ := ho.1
  exact ⟨b, off, ll[k], A'', c'', e, hlt, hx, ho, hc k _ hu⟩
theorem OwD.set_typ {B b i : Nat} {w : World} {v : Value} {l : List Dm} {E : TypeId} {xs : List Value} (h : OwD B w v l) (k : Blk w b E xs) (hne : 53 ≠ E) (u : Value) : OwD B (w.setCell ⟨b, i, none⟩ u) v l :=
  ⟨h.1, h.2.1.kept grown_setc (own_apart h.2.1 hne (fun j hj => by injection hj with hj; subst hj; exact ⟨_, _, k⟩)), h.2.2⟩
theorem RdD.set_far {w : World} {A : Option Addr} {l : List Dm} {b i : Nat} (h : RdD w A l) (hb : ∀ a, A = some a → a.block ≠ b) (u : Value) : RdD (w.setCell ⟨b, i, none⟩ u) A l := by
  obtain ⟨⟨h1, h2⟩, h3⟩ := h
  refine ⟨⟨h1, fun hn => ?_⟩, h3⟩
  obtain ⟨b', off, e, hlt, hc⟩ := h2 hn
  have hne := hb _ e
  refine ⟨b', off, e, by simpa using hlt, fun j v hv => ?_⟩
  have h4 := hc j v hv
  have hh := Below.heap_setCell w ⟨b, i, none⟩ u b' hne
  simp only [World.cell?, hh] at h4 ⊢
  exact h4
set_option maxRecDepth 100000 in
set_option maxHeartbeats 4000000 in
theorem l08Tiling_any (g : Nat) (w : World) (h : Cur w g) :
    Calls Try.prog 105 #[.pointer (some ⟨g, 0, none⟩)] w fun e w' => ∃ (A : Option Addr) (rs : List Int) (c : Nat) (B : Option Addr) (t : List Dm) (d : Nat), e = .returned (.tuple #[.agg #[.slice A rs.length c], .slice B t.length d]) ∧ inB (cntT rs) 1 300 = true ∧ t ∈ tils 64 (regSet rs) ∧ OwI w.heap.size w' (.slice A rs.length c) rs ∧ OwD 0 w' (.slice B t.length d) t ∧ Drawn g w w' := by
  have Z := Lib.hid (Blk.new w 31 [.slice none 0 0])
  have hg := h.lt
  have hd0 := Lib.hid (Drawn.start h (bl_alloc (Below.refl _ _) (.cells #[.slice none 0 0] 31)))
  go_enter Try.func105, Try.ntmps105
  go_wp2_with fail
  (refine (l08Region_any g _ hd0.out.1).mono ?_; rintro e w1 ⟨A, rs, c, rfl, hok, o1, hd1⟩)
  have hx1 := bl_alloc (Below.refl w1.heap.size w1) (.cells #[.slice A rs.length c] 31)
  have HZ := Lib.hid ((Z.out.grow hd1.2 (by omega)).bel hx1)
  have HD := Lib.hid ((hd0.out.trans hd1).bel hx1)
  have HO := Lib.hid ((o1.mono (B' := w.heap.size + 1) Z.out.lt).bel hx1)
  have V := Lib.hid (Blk.new w1 31 [.slice A rs.length c])
  have Hok := Lib.hid hok
  obtain ⟨hreg, he, hl3⟩ := listT_yes hok
  have hrl : rs.length ≤ 1048576 := by have := (regOk_iff.1 hreg).1; omega
  have HE := Lib.hid he
  have hw1 : w.heap.size + 1 ≤ w1.heap.size := Nat.le_trans Z.out.lt hd1.2.size
  have hpos : 0 < (listT rs).length := by
    rw [he]
    have h1 := inB_true.1 hok
    rw [cntT, if_pos hreg, ← tils_len 64 _ (regSet_lt hreg)] at h1
    omega
  have h300 := listT_len rs
  clear Z hd0 hd1 o1 hx1 hok he hl3
  go_wp2_with fail
  (refine (ListTilings_s A c rs _ hrl HO.out.rd).mono ?_; rintro e w2 ⟨v2, rfl, o2, hb2⟩)
  obtain ⟨⟨A2, c2, rfl⟩, _⟩ := id o2
  replace HZ := Lib.hid (HZ.out.bel hb2)
  replace HD := Lib.hid (HD.out.bel hb2)
  replace HO := Lib.hid (HO.out.bel hb2)
  replace V := Lib.hid (V.out.bel hb2)
  have hmb : w.heap.size + 1 ≤ (w1.alloc (.cells #[.slice A rs.length c] 31)).heap.size := by rw [World.size_alloc]; omega
  have HT := Lib.hid (OwDD.mono o2 (B' := w.heap.size + 1) hmb)
  obtain ⟨n, hn⟩ : ∃ n, n = (listT rs).length := ⟨_, rfl⟩
  rw [← hn] at HT hpos h300 ⊢
  have HN := Lib.hid hn
  obtain ⟨b2, off2, _, _, _, hA2, hbl2, _⟩ := HT.out.rd.at_ (k := 0) (by rw [← HN.out]; exact hpos)
  subst hA2
  obtain ⟨gv, hgv⟩ : ∃ gv, gv = w1.heap.size := ⟨_, rfl⟩
  rw [← hgv] at V ⊢
  have HGV := Lib.hid hgv
  have vc := V.out.c1
  have hgg : gv ≠ g := by have := HGV.out; omega
  have HcA := Lib.hid (HD.out.1.bel (bl_drew (Below.refl w2.heap.size w2)))
  have hdr := Lib.hid (Drawn.start HD.out.1 (bl_drew (Below.refl w2.heap.size w2)))
  have hn2 : n ≤ 1048576 := by omega
  clear hgv hn o2 hb2 hmb
  have HcW := Lib.hid HD.out.1
  have hb2w : b2 ≠ w.heap.size := by
    have h8 : OwS 46 (OwD 0) (w.heap.size + 1) w2 (.slice (some ⟨b2, off2, none⟩) n c2) (listT rs) := HT.out
    have := (OwS.rng h8 b2 rfl).1
    omega
  go_wp2_with fail
  go_region_with
    (first | (go_at_call 174; with_reducible refine (l01Below_any g n w2.drew hpos hn2 HcA.out).mono ?_; rintro e w5 ⟨x, rfl, hx, hd5⟩; have hdd := Drawn.trans hdr.out hd5; have HT5 := Lib.hid (OwDD.drawn HT.out HcW.out (drawn_gr8 hdd)); have HO5 := Lib.hid (OwI.drawn HO.out HcW.out (drawn_gr8 hdd)); have V5 := Lib.hid (V.out.grow (drawn_gr8 hdd) hgg); have HZ5 := Lib.hid (HZ.out.grow (drawn_gr8 hdd) (by omega)); have HD5 := Lib.hid (Drawn.trans HD.out hdd); have kc5 := V5.out.c1; have zf := HZ5.out.frozen 0; have zc := HZ5.out.c1; obtain ⟨b3, off3, t, A3, c3, hA3, hbl3, ht, hown, hcell⟩ := HT5.out.at_ (k := x) (lt_len HN.out hx); injection hA3 with hA3; injection hA3 with e1 e2; subst e1; subst e2; have hx0 : (0 : Int) ≤ (x : Int) := (by omega); have hxn : (x : Int) < (n : Int) := (by omega); have Hown := Lib.hid hown; have Ht := Lib.hid (List.mem_of_getElem? ht); have hne : gv ≠ w.heap.size := (by have := HGV.out; omega); have hcells := cell_far8 (i := 0) hcell hb2w (.slice A rs.length c); have kcs := (V5.out.farN w.heap.size 0 hne (.slice A rs.length c)).c1; clear hown ht hd5 hdd))
  all_goals (go_wp2_with fail)
  all_goals
    have R := HZ5.out.set_ 0 (.slice A rs.length c)
    have O := Lib.hid (HO5.out.set_ (p := ⟨w.heap.size, 0, none⟩) (Nat.lt_succ_self _) (.slice A rs.length c))
    have OD := Lib.hid (OwD.set_typ (i := 0) Hown.out HZ5.out (by decide) (.slice A rs.length c))
    have HDs := Lib.hid (drawn_set8 (i := 0) HD5.out (Nat.le_refl _) hg (.slice A rs.length c))
    exact bodyPost_ret (res_regt (g := w.heap.size) rfl rfl rfl R) rfl ⟨A, rs, c, A3, t, c3, rfl, Hok.out, by rw [← HE.out]; exact Ht.out, O.out.mono (Nat.le_succ _), OD.out, HDs.out⟩
theorem DrawTiling_any (A : Option Addr) (c : Nat) (l : List Int) (w : World) (hl : l.length ≤ 1048576) (hr : RdB w A l) :
    Calls Try.prog 27 #[.slice A l.length c] w fun e w' => ∃ (A : Option Addr) (rs : List Int) (c : Nat) (B : Option Addr) (t : List Dm) (d : Nat), e = .returned (.tuple #[.agg #[.slice A rs.length c], .slice B t.length d]) ∧ inB (cntT rs) 1 300 = true ∧ t ∈ tils 64 (regSet rs) ∧ RdI w' A rs ∧ RdD w' B t ∧ Below w.heap.size w w' := by
  have Z := Blk.new w 31 [.slice none 0 0]
  have h0 := bl_alloc (Below.refl w.heap.size w) (.cells #[.slice none 0 0] 31)
  have hr1 := hr.below h0
  have hz := Z.lt
  go_enter Try.func27, Try.ntmps27
  go_wp2_with fail
  (refine (l01New_any A c l _ hl hr1).mono ?_; rintro e w1 ⟨g, rfl, hg, hc, hb⟩)
  have Z1 := Z.bel hb
  have hb1 := bl_trans h0 hb
  go_wp2_with fail
  (refine (l08Tiling_any g _ hc).mono ?_; rintro e w2 ⟨A2, rs, c2, B2, t, d2, rfl, hok, ht, hri, hrd, hd⟩)
  have Z2 := Z1.grow hd.2 (by omega)
  have hb2 := hb1.grown hd.2 hb1.size (fun k hk => by injection hk with hk; omega)
  have hzz : w.heap.size < w1.heap.size := Z1.lt
  have hx := bl_alloc (Below.refl w2.heap.size w2) (.cells #[.slice A2 rs.length c2] 31)
  have Z3 := Z2.bel hx
  have Rf0 := Z3.frozen 0
  have Rc := Z3.c1
  have R := Z3.set_ 0 (.slice A2 rs.length c2)
  have O := Lib.hid ((hri.bel hx).set_ (p := ⟨w.heap.size, 0, none⟩) hzz (.slice A2 rs.length c2)).rd
  have OD := Lib.hid (OwD.set_typ (i := 0) (hrd.bel hx) Z3 (by decide) (.slice A2 rs.length c2)).rd
  have HB := Lib.hid (bl_set (bl_trans hb2 hx) (p := ⟨w.heap.size, 0, none⟩) (Nat.le_refl _) (.slice A2 rs.length c2))
  clear hb2 hb1 hb h0 Z Z1 Z2 hx hri hrd hd
  go_wp2_with fail
  exact bodyPost_ret (res_regt (g := w.heap.size) rfl rfl rfl R) rfl ⟨A2, rs, c2, B2, t, d2, rfl, hok, ht, O.out, OD.out, HB.out⟩
end Go.Proofs.Ytdcjhfmkkcakhaa

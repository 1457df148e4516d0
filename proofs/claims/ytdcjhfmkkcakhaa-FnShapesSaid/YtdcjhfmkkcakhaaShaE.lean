/-
  The reference's draw of a shape once more: the shape that is drawn is grown cell by cell, and so all that the law FnShapes asks of it holds. No condition.
-/
import Derived.Test.YtdcjhfmkkcakhaaShaD
import Derived.Test.YtdcjhfmkkcakhaaShpP
namespace Go.Proofs.Ytdcjhfmkkcakhaa
open Go.ChangeShapes Go.WideShapes Go.ChangeAt Go.RowKit Go.Deep
set_option linter.unusedVariables false
/-- the list under way -/
structure SG (g k : Nat) (w0 w : World) (v : Value) (l : List Cl) : Prop where
  own : OwC w0.heap.size w v l
  one : 1 ≤ l.length
  len : l.length ≤ k + 1
  ok : ∀ c ∈ l, cellOk c.1 c.2 = true
  drawn : Drawn g w0 w
  gr : Grown l
theorem SG.draw {g k : Nat} {w0 w w1 : World} {v : Value} {l : List Cl} (h : SG g k w0 w v l) (hd : Drawn g w w1) : SG g k w0 w1 v l := ⟨h.own.drawn h.drawn.1 hd.2, h.one, h.len, h.ok, h.drawn.trans hd, h.gr⟩
theorem SG.bel {g k : Nat} {w0 w w1 : World} {v : Value} {l : List Cl} (h : SG g k w0 w v l) (hb : Below w.heap.size w w1) : SG g k w0 w1 v l := ⟨h.own.bel hb, h.one, h.len, h.ok, h.drawn.bel hb, h.gr⟩
set_option maxRecDepth 100000 in
set_option maxHeartbeats 4000000 in
theorem l29Shape_grown (g : Nat) (w : World) (h : Cur w g) :
    Calls Try.prog 87 #[.pointer (some ⟨g, 0, none⟩)] w fun e w' => ∃ (A : Option Addr) (c : Nat) (l : List Cl), e = .returned (.slice A l.length c) ∧ l.length ≤ 5 ∧ shpB l = true ∧ OwC w.heap.size w' (.slice A l.length c) l ∧ Drawn g w w' := by
  have hgl := h.lt
  have hl0 := bl_alloc (Below.refl w.heap.size w) (.cells #[.int .i64 3, .int .i64 3] 35)
  have own0 : OwC w.heap.size (w.alloc (.cells #[.int .i64 3, .int .i64 3] 35)) (.slice (some ⟨w.heap.size, 0, none⟩) 1 1) [(3, 3)] :=
    Blk.ownC' (l := [(3, 3)]) (rest := []) (Blk.new w 35 [.int .i64 3, .int .i64 3]) (Nat.le_refl _) (by simp) (by decide) (by simp [cC]) (fun x hx => by simp at hx; subst hx; exact ⟨⟨by decide, by decide⟩, by decide, by decide⟩)
  have S0 := Lib.hid (show SG g 0 w (w.alloc (.cells #[.int .i64 3, .int .i64 3] 35)) (.slice (some ⟨w.heap.size, 0, none⟩) 1 1) [(3, 3)] from ⟨own0, by simp, by simp, fun c hc => by simp at hc; subst hc; rfl, Drawn.start h hl0, grown_one⟩)
  clear hl0 own0
  go_enter Try.func87, Try.ntmps87
  go_wp2_with fail
  (refine (l01Below_any g 5 _ (by decide) (by decide) S0.out.drawn.1).mono ?_; rintro e w1 ⟨n, rfl, hn, hd1⟩; have S1 := Lib.hid (S0.out.draw hd1); clear hd1 S0)
  go_wp2_with fail
  go_loopw [3, 5] (fun v q wr => ∃ (k : Nat) (l : List Cl), k ≤ n ∧ q = .int .i64 (k : Int) ∧ SG g k w wr v l) (fun _ q _ => n - (intOf q).toNat)
  case atStart => exact ⟨0, [(3, 3)], by omega, rfl, S1.out⟩
  case round =>
    obtain ⟨k, l, hk, rfl, hS⟩ := hrel
    clear S1
    obtain ⟨⟨A, c, rfl⟩, _⟩ := id hS.own
    obtain ⟨L, hL⟩ : ∃ L, L = l.length := ⟨_, rfl⟩
    have hL1 : 1 ≤ L := by rw [hL]; exact hS.one
    have hL5 : L ≤ 1048576 := by have := hS.len; omega
    rw [← hL] at hS ⊢
    have HL := Lib.hid hL
    have HS := Lib.hid hS
    clear hL hS
    by_cases hlt : k < n
    · go_wp2_with fail
      (refine (l01Below_any g L _ hL1 hL5 HS.out.drawn.1).mono ?_; rintro e w3 ⟨i, rfl, hi, hd3⟩; have HS3 := Lib.hid (HS.out.draw hd3); clear hd3 HS)
      obtain ⟨b, off, x, y, hA, hbl, hxy, _, _, _, cx, cy⟩ := HS3.out.own.rd.at_ (k := i) (by rw [← HL.out]; exact hi)
      have hcell := HS3.out.ok (x, y) (List.mem_of_getElem? hxy)
      have hpos := nbrs_pos hcell
      have hiL : (i : Int) < (L : Int) := by omega
      subst hA
      have Hxm := Lib.hid (List.mem_of_getElem? hxy)
      clear hxy hcell
      go_wp2_with fail
      (refine (NeighborsOf_s x y _).mono ?_; rintro e w4 ⟨v4, rfl, o4, hb4⟩; obtain ⟨⟨A4, c4, rfl⟩, _⟩ := id o4; have HS4 := Lib.hid (HS3.out.bel hb4); have O4 := Lib.hid o4; clear o4 hb4 HS3 cx cy)
      obtain ⟨M, hM⟩ : ∃ M, M = (nbrs x y).length := ⟨_, rfl⟩
      rw [← hM] at O4 hpos ⊢
      have HM := Lib.hid hM
      have hM64 : M ≤ 1048576 := by rw [hM]; exact Nat.le_trans (cellsBy_len _ _) (by decide)
      clear hM
      go_wp2_with fail
      (refine (l01Below_any g M _ hpos hM64 HS4.out.drawn.1).mono ?_; rintro e w5 ⟨j, rfl, hj, hd5⟩; have HS5 := Lib.hid (HS4.out.draw hd5); have O5 := Lib.hid (O4.out.drawn HS4.out.drawn.1 hd5.2); clear hd5 HS4 O4)
      obtain ⟨b4, off4, u, t, hA4, hbl4, hut, _, iu, it, cu, ct⟩ := O5.out.rd.at_ (k := j) (by rw [← HM.out]; exact hj)
      have Hut := Lib.hid (nbrs_cells (List.mem_of_getElem? hut))
      have hjM : (j : Int) < (M : Int) := by omega
      subst hA4
      have Hum := Lib.hid (List.mem_of_getElem? hut)
      clear hut O5
      have HS6 := Lib.hid (HS5.out.bel (bl_alloc (Below.refl w5.heap.size w5) (.cells #[.int .i64 u, .int .i64 t] 35)))
      have V := Blk.new w5 35 [.int .i64 u, .int .i64 t]
      have Vc := V.c2
      clear HS5
      by_cases hin : (u, t) ∈ l
      · have hdec : decide ((u, t) ∈ l) = true := decide_eq_true hin
        have Hdec := Lib.hid hdec
        clear hin hdec
        go_wp2_with (go_at_call 176; go_must (refine (l10Has_any _ L c l u t _ HL.out hL5 HS6.out.own.rd).mono ?_; rintro e w7 ⟨rfl, hb7⟩; rw [Hdec.out]; have HS7 := Lib.hid (HS6.out.bel hb7); clear hb7))
        go_roundw
        case rel => exact ⟨k + 1, l, by omega, by go_num, HS7.out.own, HS7.out.one, by have := HS7.out.len; omega, HS7.out.ok, HS7.out.drawn, HS7.out.gr⟩
        case measure => simp [intOf]; omega
      · have hdec : decide ((u, t) ∈ l) = false := decide_eq_false hin
        have Hdec := Lib.hid hdec
        have Hgr := Lib.hid (grown_more HS6.out.gr (by have := HS6.out.len; omega) Hxm.out Hum.out hin)
        have hlen2 : l.length ≤ 1048576 := by rw [← HL.out]; exact hL5
        clear hin hdec
        go_wp2_with (first
          | (go_at_call 176; go_must (refine (l10Has_any _ L c l u t _ HL.out hL5 HS6.out.own.rd).mono ?_; rintro e w7 ⟨rfl, hb7⟩; rw [Hdec.out]; have HS7 := Lib.hid (HS6.out.bel hb7); have V7 := V.bel hb7; have Vc7 := V7.c2; clear hb7))
          | (at_builtin; refine wpList_atC rfl (.tmp 36) (.tmp 38) rfl w.heap.size _ l u t rfl rfl HS7.out.own HS7.out.drawn.2.size hlen2 iu it ?_; intro v' w8 ho1 hb1 hg1 hat1 hsz1; have O8 := Lib.hid ho1; have D8 := Lib.hid (HS7.out.drawn.belB hgl (hb1 _ (Below.refl _ _))); clear ho1 hb1 hg1 hat1 hsz1))
        go_roundw
        case rel =>
          refine ⟨k + 1, l ++ [(u, t)], by omega, by go_num, O8.out, by rw [List.length_append]; simp, by rw [List.length_append]; have := HS7.out.len; simp; omega, fun c hc => ?_, D8.out, Hgr.out⟩
          rcases List.mem_append.1 hc with hc | hc
          · exact HS7.out.ok c hc
          · simp at hc; subst hc; exact Hut.out
        case measure => simp [intOf]; omega
    · obtain rfl : k = n := by omega
      have hnear := cells_near HS.out.ok
      go_wp2_with fail
      (refine (l29Fit_any A L c l _ HL.out hL5 (by omega) hnear.1 hnear.2 HS.out.own.rd).mono ?_; rintro e w2 ⟨v2, rfl, o2, hb2⟩; have hd2 := Lib.hid (HS.out.drawn.bel hb2); have O2 := Lib.hid (o2.mono HS.out.drawn.2.size); clear o2 hb2)
      obtain ⟨⟨A2, c2, rfl⟩, _⟩ := id O2.out
      go_wp2_with fail
      go_ret
      exact ⟨A2, c2, fitL l, rfl, by rw [fitL_len, ← HL.out]; have := HS.out.len; rw [← HL.out] at this; omega, grown_shape HS.out.gr (by have := HS.out.len; omega), O2.out, hd2.out⟩
theorem DrawShape_grown (A : Option Addr) (c : Nat) (l : List Int) (w : World) (hl : l.length ≤ 1048576) (hr : RdB w A l) :
    Calls Try.prog 14 #[.slice A l.length c] w fun e w' => ∃ (A : Option Addr) (c : Nat) (l : List Cl), e = .returned (.slice A l.length c) ∧ l.length ≤ 5 ∧ shpB l = true ∧ RdC w' A l ∧ Below w.heap.size w w' := by
  go_enter Try.func14, Try.ntmps14
  go_wp2_with fail
  (refine (l01New_any A c l _ hl hr).mono ?_; rintro e w1 ⟨g, rfl, hg, hc, hb⟩)
  go_wp2_with fail
  (refine (l29Shape_grown g _ hc).mono ?_; rintro e w2 ⟨A2, c2, l2, rfl, h5, hsp, ho, hd⟩)
  go_wp2_with fail
  go_ret
  exact ⟨A2, c2, l2, rfl, h5, hsp, ho.rd, hb.grown hd.2 hb.size (fun k hk => by injection hk with hk; omega)⟩
end Go.Proofs.Ytdcjhfmkkcakhaa

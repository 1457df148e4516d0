/-
  The reference's draw of a pattern (l30Pattern): it is a valid one. The cursor alone is written. No condition.
-/
import Derived.Test.YtdcjhfmkkcakhaaDrawR
import Derived.Test.YtdcjhfmkkcakhaaStripe
import Derived.Test.YtdcjhfmkkcakhaaPattern
namespace Go.Proofs.Ytdcjhfmkkcakhaa
open Go.ChangeShapes Go.WideShapes Go.ChangeAt Go.RowKit Go.Deep
set_option linter.unusedVariables false
theorem stripe_pat : ∀ k : Fin 3, patOk ((k.val + 2 : Nat) : Int) ((k.val + 2 : Nat) : Int) ((k.val + 2 : Nat) : Int) (stripe ((k.val + 2 : Nat) : Int)) = true := by decide +kernel
theorem i64_small (x m : Nat) (h : x < m) (hm : m ≤ 1048576) : I64 (x : Int) := ⟨by omega, by omega⟩
theorem patOk_mk {a b m : Nat} {l : List Int} (ha : 1 ≤ a ∧ a ≤ 3) (hb : 1 ≤ b ∧ b ≤ 3) (hm : 2 ≤ m ∧ m ≤ 5) (hl : l.length = a * b) (h : ∀ x ∈ l, 0 ≤ x ∧ x < m) : patOk (a : Int) (b : Int) (m : Int) l = true := by
  unfold patOk
  simp only [Bool.and_eq_true, decide_eq_true_eq, List.all_eq_true, inB_true]
  exact ⟨⟨⟨⟨⟨by omega, by omega⟩, by omega, by omega⟩, by omega, by omega⟩, by rw [hl]; push_cast; rfl⟩, fun x hx => by have := h x hx; omega⟩
/-- the pattern under way -/
structure PW (g Z r3 a b m : Nat) (w0 w : World) (v : Value) (l : List Int) : Prop where
  cur : Cur w g
  gz : g < Z
  z0 : w0.heap.size ≤ Z
  zz : Z < r3
  own : OwI (r3 + 1) w v l
  rng : ∀ x ∈ l, 0 ≤ x ∧ x < m
  var : Blk w r3 26 [.int .i64 (a : Int), .int .i64 (b : Int), .int .i64 (m : Int), v]
  res : Blk w Z 26 [.int .i64 0, .int .i64 0, .int .i64 0, .slice none 0 0]
  drawn : w0.grownBy w (some g)
theorem PW.draw {g Z r3 a b m : Nat} {w0 w w1 : World} {v : Value} {l : List Int} (h : PW g Z r3 a b m w0 w v l) (hd : Drawn g w w1) : PW g Z r3 a b m w0 w1 v l :=
  ⟨hd.1, h.gz, h.z0, h.zz, h.own.drawn h.cur hd.2, h.rng, h.var.grow hd.2 (by have := h.gz; have := h.zz; omega), h.res.grow hd.2 (by have := h.gz; omega), grown_trans h.drawn hd.2⟩
/-- behind the append and the store -/
theorem PW.app {g Z r3 a b m : Nat} {w0 w w1 : World} {v v' : Value} {l : List Int} {x : Nat} (h : PW g Z r3 a b m w0 w v l) (hb : Below (r3 + 1) w w1) (ho : OwI (r3 + 1) w1 v' (l ++ [(x : Int)])) (hx : x < m) :
    PW g Z r3 a b m w0 (w1.setCell ⟨r3, 3, none⟩ v') v' (l ++ [(x : Int)]) := by
  have hz := h.zz
  have hg := h.gz
  have h0 := h.z0
  have hc : Cur w1 g := by
    obtain ⟨A, c, l, i, y, h1, ⟨⟨h2, h3⟩, h4⟩, h5, h6⟩ := h.cur
    refine ⟨A, c, l, i, y, h1.below hb (by omega), ⟨⟨h2, fun hn => ?_⟩, h4⟩, h5, h6⟩
    obtain ⟨b, off, e, hlt, hc⟩ := h3 hn
    have hbg : b < g := h5 hn _ e
    refine ⟨b, off, e, Nat.lt_of_lt_of_le hlt hb.size, fun j u hu => ?_⟩
    have := hc j u hu
    have hh := hb.block b (by omega)
    simp only [World.cell?, hh] at this ⊢
    exact this
  refine ⟨hc.set_ (by omega), h.gz, h.z0, h.zz, ho.set_ (p := ⟨r3, 3, none⟩) (Nat.lt_succ_self _) _, fun y hy => ?_, (h.var.below hb (Nat.lt_succ_self _)).set_ 3 v', (h.res.below hb (by omega)).farN _ _ (by omega) _, ?_⟩
  · rcases List.mem_append.1 hy with hy | hy
    · exact h.rng y hy
    · simp at hy; subst hy; omega
  · exact ⟨hb.os.trans h.drawn.os, hb.tape.trans h.drawn.tape, hb.output.trans h.drawn.output, by simpa using Nat.le_trans h.drawn.size hb.size, fun k hk hne => (Below.heap_setCell w1 ⟨r3, 3, none⟩ v' k (by show k ≠ r3; omega)).trans ((hb.block k (by omega)).trans (h.drawn.block k hk hne))⟩
theorem Drawn.set {g b i : Nat} {w w1 : World} (h : Drawn g w w1) (hb : w.heap.size ≤ b) (hg : g < b) (u : Value) : Drawn g w (w1.setCell ⟨b, i, none⟩ u) :=
  ⟨h.1.set_ hg, ⟨h.2.os, h.2.tape, h.2.output, by simpa using h.2.size, fun k hk hne => (Below.heap_setCell w1 ⟨b, i, none⟩ u k (by show k ≠ b; omega)).trans (h.2.block k hk hne)⟩⟩
set_option maxRecDepth 100000 in
set_option maxHeartbeats 4000000 in
theorem l30Pattern_any (g : Nat) (w : World) (h : Cur w g) :
    Calls Try.prog 85 #[.pointer (some ⟨g, 0, none⟩)] w fun e w' => ∃ (a b m : Int) (A : Option Addr) (l : List Int) (c : Nat), e = .returned (.agg #[.int .i64 a, .int .i64 b, .int .i64 m, .slice A l.length c]) ∧ patOk a b m l = true ∧ OwI w.heap.size w' (.slice A l.length c) l ∧ Drawn g w w' := by
  have Z := Blk.new w 26 [.int .i64 0, .int .i64 0, .int .i64 0, .slice none 0 0]
  have hg := h.lt
  have hd0 := Drawn.start h (bl_alloc (Below.refl _ _) (.cells #[.int .i64 0, .int .i64 0, .int .i64 0, .slice none 0 0] 26))
  go_enter Try.func85, Try.ntmps85
  go_wp2_with fail
  (refine (l01Once_any g 2 _ (by decide) (by decide) hd0.1).mono ?_; rintro e w1 ⟨bb, rfl, hd1⟩; have Z1 := Z.grow hd1.2 (by omega); have hdA := Lib.hid (hd0.trans hd1); clear hd1)
  cases bb
  · go_wp2_with fail
    (refine (l01Below_any g 3 _ (by decide) (by decide) hdA.out.1).mono ?_; rintro e w2 ⟨a0, rfl, ha, hd2⟩; have Z2 := Z1.grow hd2.2 (by omega); have hdB := Lib.hid (hdA.out.trans hd2); clear hd2 hdA)
    obtain ⟨a, hae⟩ : ∃ a : Nat, a = a0 + 1 := ⟨_, rfl⟩
    have hai : (1 : Int) + (a0 : Int) = (a : Int) := by omega
    have ha3 : 1 ≤ a ∧ a ≤ 3 := by omega
    clear hae
    go_wp2_with fail
    (refine (l01Below_any g 3 _ (by decide) (by decide) hdB.out.1).mono ?_; rintro e w3 ⟨b0, rfl, hb, hd3⟩; have Z3 := Z2.grow hd3.2 (by omega); have hdC := Lib.hid (hdB.out.trans hd3); clear hd3 hdB)
    obtain ⟨b, hbe⟩ : ∃ b : Nat, b = b0 + 1 := ⟨_, rfl⟩
    have hbi : (1 : Int) + (b0 : Int) = (b : Int) := by omega
    have hb3 : 1 ≤ b ∧ b ≤ 3 := by omega
    clear hbe
    go_wp2_with fail
    (refine (l01Below_any g 4 _ (by decide) (by decide) hdC.out.1).mono ?_; rintro e w4 ⟨m0, rfl, hm, hd4⟩; have Z4 := Z3.grow hd4.2 (by omega); have hdD := Lib.hid (hdC.out.trans hd4); clear hd4 hdC)
    obtain ⟨m, hme⟩ : ∃ m : Nat, m = m0 + 2 := ⟨_, rfl⟩
    have hmi : (2 : Int) + (m0 : Int) = (m : Int) := by omega
    have hm5 : 2 ≤ m ∧ m ≤ 5 := by omega
    clear hme
    obtain ⟨N, hN⟩ : ∃ N : Nat, N = a * b := ⟨_, rfl⟩
    have hNi : (a : Int) * (b : Int) = (N : Int) := by rw [hN]; push_cast; rfl
    have hN9 : N ≤ 9 := by rw [hN]; exact Nat.mul_le_mul ha3.2 hb3.2
    have HN := Lib.hid hN
    have hz4 := Z4.lt
    have pw0 : PW g w.heap.size w4.heap.size a b m w (w4.alloc (.cells #[.int .i64 (a : Int), .int .i64 (b : Int), .int .i64 (m : Int), .slice none 0 0] 26)) (.slice none 0 0) [] :=
      ⟨hdD.out.1.bel (bl_alloc (Below.refl _ _) _), hg, Nat.le_refl _, hz4, OwI.nil_ _ _, by simp, Blk.new w4 _ _, Z4.alloc _, grown_trans hdD.out.2 (grown_of_bel (bl_alloc (Below.refl _ _) _) _)⟩
    have PW0 := Lib.hid pw0
    clear Z Z1 Z2 Z3 Z4 hd0 hdD hN pw0
    go_wp2_with fail
    go_loopw [4] (fun q wr => ∃ (k : Nat) (v : Value) (l : List Int), k ≤ N ∧ q = .int .i64 (k : Int) ∧ PW g w.heap.size w4.heap.size a b m w wr v l ∧ Hid (l.length = k)) (fun q _ => N - (intOf q).toNat)
    case atStart => exact ⟨0, _, [], by omega, rfl, PW0.out, Lib.hid rfl⟩
    case round =>
      obtain ⟨k, v, l, hk, rfl, hP, hlk⟩ := hrel
      clear PW0
      have Vc := hP.var.c4
      by_cases hlt : k < N
      · obtain ⟨⟨Av, cv, rfl⟩, _⟩ := id hP.own
        rw [hlk.out] at hP Vc
        have hlen : l.length ≤ 1048576 := by rw [hlk.out]; omega
        have Vf := hP.var.frozen 3
        have HP := Lib.hid hP
        have HcA := Lib.hid (hP.cur.bel (bl_drew (Below.refl wr.heap.size wr)))
        have hdr := Lib.hid (Drawn.start hP.cur (bl_drew (Below.refl wr.heap.size wr)))
        have hm1 : 0 < m := by omega
        have hm2 : m ≤ 1048576 := by omega
        clear hP
        go_wp2_with fail
        go_region_law (first
          | (refine step_as1I (by rfl) (.tmp 31) (.tmp 36) (by rfl) (w4.heap.size + 1) (.slice Av k cv) l (x : Int) (by rfl) (by rfl) HO5.out hs5 hlen hxI ?_; intro A7 L7 c7 w7 hL7 o7 b7 g7 s7; have b7r := b7 _ (Below.refl _ _); have P7 := Lib.hid (PW.app HP5.out b7r o7 hx); have Pv := HP5.out.var.below b7r (Nat.lt_succ_self _); have Pc7 := Pv.c4; have Pf7 := Pv.frozen 3; clear o7 b7 g7 b7r)
          | (go_simp; go_at_call 174; with_reducible refine (l01Below_any g m wr.drew hm1 hm2 HcA.out).mono ?_; rintro e w5 ⟨x, rfl, hx, hd5⟩; have hd6 := Drawn.trans hdr.out hd5; have HP5 := Lib.hid (PW.draw HP.out hd6); have Pc5 := HP5.out.var.c4; have Pf5 := HP5.out.var.frozen 3; have hs5 := HP5.out.var.lt; have HO5 := Lib.hid HP5.out.own; have hxI := i64_small x m hx hm2; clear hd5 hd6))
        all_goals (go_wp2_with fail; go_roundw; (case rel => exact ⟨k + 1, _, _, by omega, by go_num, P7.out, Lib.hid (by rw [List.length_append, hlk.out]; rfl)⟩); (case measure => simp [intOf]; omega))
      · obtain rfl : k = N := by omega
        have Rf0 := hP.res.frozen 0
        have Rf1 := hP.res.frozen 1
        have Rf2 := hP.res.frozen 2
        have Rf3 := hP.res.frozen 3
        have Rc := hP.res.c4
        obtain ⟨⟨A, c, rfl⟩, _⟩ := id hP.own
        have hpat := Lib.hid (patOk_mk ha3 hb3 hm5 (by rw [hlk.out]; exact HN.out) hP.rng)
        obtain ⟨L, hL⟩ : ∃ L, L = l.length := ⟨_, rfl⟩
        rw [← hL] at hP Vc
        have HL := Lib.hid hL
        have R := (((hP.res.set_ 0 (.int .i64 (a : Int))).set_ 1 (.int .i64 (b : Int))).set_ 2 (.int .i64 (m : Int))).set_ 3 (.slice A L c)
        have hz0 := hP.zz
        have O := Lib.hid ((((hP.own.set_ (p := ⟨w.heap.size, 0, none⟩) (by show w.heap.size < w4.heap.size + 1; omega) (.int .i64 (a : Int))).set_ (p := ⟨w.heap.size, 1, none⟩) (by show w.heap.size < w4.heap.size + 1; omega) (.int .i64 (b : Int))).set_ (p := ⟨w.heap.size, 2, none⟩) (by show w.heap.size < w4.heap.size + 1; omega) (.int .i64 (m : Int))).set_ (p := ⟨w.heap.size, 3, none⟩) (by show w.heap.size < w4.heap.size + 1; omega) (.slice A L c))
        have hD : Drawn g w wr := ⟨hP.cur, hP.drawn⟩
        have HD := Lib.hid ((((hD.set (i := 0) (Nat.le_refl _) hg (.int .i64 (a : Int))).set (i := 1) (Nat.le_refl _) hg (.int .i64 (b : Int))).set (i := 2) (Nat.le_refl _) hg (.int .i64 (m : Int))).set (i := 3) (Nat.le_refl _) hg (.slice A L c))
        clear hP hlk hL hD
        go_wp2_with fail
        exact bodyPost_ret (res_pat (g := w.heap.size) rfl rfl R) rfl ⟨_, _, _, A, l, c, by rw [← HL.out], hpat.out, by rw [← HL.out]; exact O.out.mono (by omega), HD.out⟩
  · go_wp2_with fail
    (refine (l01Below_any g 3 _ (by decide) (by decide) hdA.out.1).mono ?_; rintro e w2 ⟨k0, rfl, hk, hd2⟩; have Z2 := Z1.grow hd2.2 (by omega); have hdB := Lib.hid (hdA.out.trans hd2); clear hd2 hdA)
    have hki : (2 : Int) + (k0 : Int) = ((k0 + 2 : Nat) : Int) := by omega
    have hsk := Lib.hid (show stripeK ((k0 + 2 : Nat) : Int) = ((k0 + 2 : Nat) : Int) by
      have : inB ((k0 + 2 : Nat) : Int) 2 4 = true := inB_true.2 ⟨by omega, by omega⟩
      rw [stripeK, this]; rfl)
    have hpat := Lib.hid (stripe_pat ⟨k0, hk⟩)
    obtain ⟨K, hK⟩ : ∃ K, K = k0 + 2 := ⟨_, rfl⟩
    have hpat2 := hpat.out
    dsimp only at hpat2
    rw [← hK] at hki hsk hpat2
    have Hpat := Lib.hid hpat2
    clear hd0 Z Z1 hK hpat hpat2
    go_wp2_with fail
    (refine (StripePattern_s (K : Int) _).mono ?_; rintro e w3 ⟨v, rfl, o3, hb3⟩; rw [hsk.out]; have Z3 := Z2.bel hb3; have hdC := Lib.hid (hdB.out.bel hb3); have O3 := Lib.hid o3; have hz2 := Z2.lt; clear o3 hb3 hdB Z2)
    have Rf0 := Z3.frozen 0
    have Rf1 := Z3.frozen 1
    have Rf2 := Z3.frozen 2
    have Rf3 := Z3.frozen 3
    have Rc := Z3.c4
    obtain ⟨⟨A, c, rfl⟩, _⟩ := id O3.out
    obtain ⟨l, hl⟩ : ∃ l, l = stripe (K : Int) := ⟨_, rfl⟩
    rw [← hl] at O3 Hpat
    obtain ⟨L, hL⟩ : ∃ L, L = (stripe (K : Int)).length := ⟨_, rfl⟩
    have HL := Lib.hid (show L = l.length by rw [hL, hl])
    rw [← HL.out] at O3
    rw [← hL]
    have R := (((Z3.set_ 0 (.int .i64 (K : Int))).set_ 1 (.int .i64 (K : Int))).set_ 2 (.int .i64 (K : Int))).set_ 3 (.slice A L c)
    have O := Lib.hid ((((O3.out.set_ (p := ⟨w.heap.size, 0, none⟩) hz2 (.int .i64 (K : Int))).set_ (p := ⟨w.heap.size, 1, none⟩) hz2 (.int .i64 (K : Int))).set_ (p := ⟨w.heap.size, 2, none⟩) hz2 (.int .i64 (K : Int))).set_ (p := ⟨w.heap.size, 3, none⟩) hz2 (.slice A L c))
    have HD := Lib.hid ((((hdC.out.set (i := 0) (Nat.le_refl _) hg (.int .i64 (K : Int))).set (i := 1) (Nat.le_refl _) hg (.int .i64 (K : Int))).set (i := 2) (Nat.le_refl _) hg (.int .i64 (K : Int))).set (i := 3) (Nat.le_refl _) hg (.slice A L c))
    clear O3 hdC Z3 hl hL
    go_wp2_with fail
    exact bodyPost_ret (res_pat (g := w.heap.size) rfl rfl R) rfl ⟨_, _, _, A, l, c, by rw [← HL.out], Hpat.out, by rw [← HL.out]; exact O.out.mono (by omega), HD.out⟩
end Go.Proofs.Ytdcjhfmkkcakhaa

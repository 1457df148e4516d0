/-
  The draws of tileable regions (l08Region, DrawTileable of the reference). No condition but the size of the bytes.
-/
import Derived.Test.YtdcjhfmkkcakhaaCnt
import Derived.Test.YtdcjhfmkkcakhaaDrawR
import Derived.StillTailTactics
import Derived.Deep.RegionHeld3
import Derived.Deep.RegionWith
namespace Go.Proofs.Ytdcjhfmkkcakhaa
open Go.ChangeShapes Go.WideShapes Go.ChangeAt Go.RowKit Go.Deep
set_option linter.unusedVariables false

theorem rect_few : ∀ (a : Fin 2) (b : Fin 3), inB (cntT (rectR ((2 + 2 * a.val : Nat) : Int) ((2 + b.val : Nat) : Int))) 1 300 = true := by decide +kernel
theorem drawn_gr8 {g : Nat} {w w' : World} (h : Drawn g w w') : w.grownBy w' (some g) := h.2
theorem drawn_set8 {g b i : Nat} {w w1 : World} (h : Drawn g w w1) (hb : w.heap.size ≤ b) (hg : g < b) (u : Value) : Drawn g w (w1.setCell ⟨b, i, none⟩ u) :=
  ⟨h.1.set_ hg, ⟨h.2.os, h.2.tape, h.2.output, by simpa using h.2.size, fun k hk hne => (Below.heap_setCell w1 ⟨b, i, none⟩ u k (by show k ≠ b; omega)).trans (h.2.block k hk hne)⟩⟩
set_option maxRecDepth 100000 in
set_option maxHeartbeats 4000000 in
theorem l08Region_any (g : Nat) (w : World) (h : Cur w g) :
    Calls Try.prog 160 #[.pointer (some ⟨g, 0, none⟩)] w fun e w' => ∃ (A : Option Addr) (l : List Int) (c : Nat), e = .returned (.agg #[.slice A l.length c]) ∧ inB (cntT l) 1 300 = true ∧ OwI w.heap.size w' (.slice A l.length c) l ∧ Drawn g w w' := by
  have Z := Lib.hid (Blk.new w 31 [.slice none 0 0])
  have hg := h.lt
  have hd0 := Lib.hid (Drawn.start h (bl_alloc (Below.refl _ _) (.cells #[.slice none 0 0] 31)))
  go_enter Try.func160, Try.ntmps160
  go_wp2_with fail
  go_loopw [3] (fun i wr => ∃ k : Nat, k ≤ 6 ∧ i = .int .i64 k ∧ Hid (Blk wr w.heap.size 31 [.slice none 0 0]) ∧ Hid (Drawn g w wr)) (fun i _ => 6 - (intOf i).toNat)
  case atStart => exact ⟨0, by omega, rfl, Z, hd0⟩
  case round =>
    obtain ⟨k, hk, rfl, HZ, HD⟩ := hrel
    clear Z hd0
    by_cases hlt : k < 6
    · go_wp2_with (first | (go_at_call 88; refine (l03Region_any g _ HD.out.1).mono ?_; rintro e w1 ⟨A, l, c, rfl, hok, o1, hd1⟩; have HO := Lib.hid (o1.mono (B' := w.heap.size + 1) HZ.out.lt); replace HZ := Lib.hid (HZ.out.grow hd1.2 (by omega)); replace HD := Lib.hid (HD.out.trans hd1); obtain ⟨v, hv⟩ : ∃ v, cntT l = v := ⟨_, rfl⟩; have HV := Lib.hid hv; have HK := Lib.hid hok; have V := Lib.hid (Blk.new w1 31 [.slice A l.length c]); clear o1 hd1 hv hok) | (go_at_call 129; refine (l07Count_eq A c l _ HK.out (HO.out.rd.below (bl_alloc (Below.refl _ _) _)) v HV.out).mono ?_; rintro e w2 ⟨rfl, hb2⟩; have hX := bl_trans (bl_alloc (Below.refl w1.heap.size w1) (.cells #[.slice A l.length c] 31)) hb2; replace HO := Lib.hid (HO.out.bel hX); replace HZ := Lib.hid (HZ.out.bel hX); replace HD := Lib.hid (HD.out.bel hX); replace V := Lib.hid (V.out.bel hb2); have vc := V.out.c1; have zc := HZ.out.c1; have zf := HZ.out.frozen 0; clear hX hb2) | (go_at_call 128; refine (l01In_any _ _ _ _).mono ?_; rintro e wn ⟨rfl, rfl⟩; obtain ⟨ib, hib⟩ : ∃ ib, ib = inB v 1 300 := ⟨_, rfl⟩; rw [← hib]; have HIB := Lib.hid hib; clear hib))
      · rename_i hc
        have Hin := Lib.hid (show inB (cntT l) 1 300 = true by rw [HV.out, ← HIB.out]; exact hc)
        obtain ⟨L, hL⟩ : ∃ L, L = l.length := ⟨_, rfl⟩
        rw [← hL] at HO vc ⊢
        have HL := Lib.hid hL
        have R := HZ.out.set_ 0 (.slice A L c)
        have O := Lib.hid (HO.out.set_ (p := ⟨w.heap.size, 0, none⟩) (Nat.lt_succ_self _) (.slice A L c))
        have HDs := Lib.hid (drawn_set8 (i := 0) HD.out (Nat.le_refl _) hg (.slice A L c))
        clear hc hL V
        go_wp2_with fail
        exact bodyPost_ret (res_region (g := w.heap.size) rfl rfl R) rfl ⟨A, l, c, by rw [← HL.out], Hin.out, by rw [← HL.out]; exact O.out.mono (Nat.le_succ _), HDs.out⟩
      · go_wp2_with fail
        go_roundw
        case rel => exact ⟨k + 1, by omega, by go_num, HZ, HD⟩
        case measure => simp [intOf]; omega
    · obtain rfl : k = 6 := by omega
      go_wp2_with fail
      (refine (l01Below_any g 2 _ (by decide) (by decide) HD.out.1).mono ?_; rintro e w1 ⟨x, rfl, hx, hd1⟩; replace HZ := Lib.hid (HZ.out.grow hd1.2 (by omega)); replace HD := Lib.hid (HD.out.trans hd1); clear hd1)
      obtain ⟨a, ha⟩ : ∃ a : Nat, a = 2 + 2 * x := ⟨_, rfl⟩
      have hax : (2 : Int) + 2 * (x : Int) = (a : Int) := by omega
      have HA := Lib.hid ha
      clear ha
      go_wp2_with fail
      (refine (l01Below_any g 3 _ (by decide) (by decide) HD.out.1).mono ?_; rintro e w2 ⟨y, rfl, hy, hd2⟩; replace HZ := Lib.hid (HZ.out.grow hd2.2 (by omega)); replace HD := Lib.hid (HD.out.trans hd2); clear hd2)
      obtain ⟨b, hb⟩ : ∃ b : Nat, b = 2 + y := ⟨_, rfl⟩
      have hby : (2 : Int) + (y : Int) = (b : Int) := by omega
      have HBe := Lib.hid hb
      clear hb
      have Hin := Lib.hid (show inB (cntT (rectR (a : Int) (b : Int))) 1 300 = true by rw [HA.out, HBe.out]; exact rect_few ⟨x, hx⟩ ⟨y, hy⟩)
      go_wp2_with fail
      (refine (Rectangle_s (a : Int) (b : Int) _).mono ?_; rintro e w3 ⟨A, c, rfl, o3, hb3⟩)
      obtain ⟨l, hl⟩ : ∃ l, l = rectR (a : Int) (b : Int) := ⟨_, rfl⟩
      rw [← hl] at o3 Hin ⊢
      have HO := Lib.hid (o3.mono (B' := w.heap.size + 1) HZ.out.lt)
      replace HZ := Lib.hid (HZ.out.bel hb3)
      replace HD := Lib.hid (HD.out.bel hb3)
      have zc := HZ.out.c1
      have zf := HZ.out.frozen 0
      obtain ⟨L, hL⟩ : ∃ L, L = l.length := ⟨_, rfl⟩
      rw [← hL] at HO ⊢
      have HL := Lib.hid hL
      have R := HZ.out.set_ 0 (.slice A L c)
      have O := Lib.hid (HO.out.set_ (p := ⟨w.heap.size, 0, none⟩) (Nat.lt_succ_self _) (.slice A L c))
      have HDs := Lib.hid (drawn_set8 (i := 0) HD.out (Nat.le_refl _) hg (.slice A L c))
      clear hL hl o3 hb3
      go_wp2_with fail
      exact bodyPost_ret (res_region (g := w.heap.size) rfl rfl R) rfl ⟨A, l, c, by rw [← HL.out], Hin.out, by rw [← HL.out]; exact O.out.mono (Nat.le_succ _), HDs.out⟩
theorem DrawTileable_any (A : Option Addr) (c : Nat) (l : List Int) (w : World) (hl : l.length ≤ 1048576) (hr : RdB w A l) :
    Calls Try.prog 73 #[.slice A l.length c] w fun e w' => ∃ (A : Option Addr) (c : Nat) (l : List Int), e = .returned (.agg #[.slice A l.length c]) ∧ inB (cntT l) 1 300 = true ∧ RdI w' A l ∧ Below w.heap.size w w' := by
  have Z := Blk.new w 31 [.slice none 0 0]
  have h0 := bl_alloc (Below.refl w.heap.size w) (.cells #[.slice none 0 0] 31)
  have hr1 := hr.below h0
  have hz := Z.lt
  go_enter Try.func73, Try.ntmps73
  go_wp2_with fail
  (refine (l01New_any A c l _ hl hr1).mono ?_; rintro e w1 ⟨g, rfl, hg, hc, hb⟩)
  have Z1 := Z.bel hb
  have hb1 := bl_trans h0 hb
  go_wp2_with fail
  (refine (l08Region_any g _ hc).mono ?_; rintro e w2 ⟨A2, l2, c2, rfl, hok, ho, hd⟩)
  have Z2 := Z1.grow hd.2 (by omega)
  have hb2 := hb1.grown hd.2 hb1.size (fun k hk => by injection hk with hk; omega)
  have Rf0 := Z2.frozen 0
  have Rc := Z2.c1
  obtain ⟨L, hL⟩ : ∃ L, L = l2.length := ⟨_, rfl⟩
  rw [← hL] at ho ⊢
  have HL := Lib.hid hL
  have R := Z2.set_ 0 (.slice A2 L c2)
  have hzz : w.heap.size < w1.heap.size := Z1.lt
  have O := Lib.hid (ho.set_ (p := ⟨w.heap.size, 0, none⟩) hzz (.slice A2 L c2)).rd
  have HB := Lib.hid (bl_set hb2 (p := ⟨w.heap.size, 0, none⟩) (Nat.le_refl _) (.slice A2 L c2))
  clear hb2 hb1 hb h0 ho Z Z1 hL hd
  go_wp2_with fail
  exact bodyPost_ret (res_region (g := w.heap.size) rfl rfl R) rfl ⟨A2, c2, l2, by rw [← HL.out], hok, O.out, HB.out⟩
end Go.Proofs.Ytdcjhfmkkcakhaa

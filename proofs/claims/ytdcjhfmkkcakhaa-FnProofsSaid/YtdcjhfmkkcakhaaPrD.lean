/-
  The draws of FnProofs: DrawPattern, DrawShape, DrawRegion of the reference. No condition but the size of the bytes.
-/
import Derived.Test.YtdcjhfmkkcakhaaPatD
import Derived.Test.YtdcjhfmkkcakhaaShaD
namespace Go.Proofs.Ytdcjhfmkkcakhaa
open Go.ChangeShapes Go.WideShapes Go.ChangeAt Go.RowKit Go.Deep
set_option linter.unusedVariables false
theorem DrawPattern_any (A : Option Addr) (c : Nat) (l : List Int) (w : World) (hl : l.length ≤ 1048576) (hr : RdB w A l) :
    Calls Try.prog 13 #[.slice A l.length c] w fun e w' => ∃ (a b m : Int) (A : Option Addr) (c : Nat) (l : List Int), e = .returned (.agg #[.int .i64 a, .int .i64 b, .int .i64 m, .slice A l.length c]) ∧ patOk a b m l = true ∧ RdI w' A l ∧ Below w.heap.size w w' := by
  have Z := Blk.new w 26 [.int .i64 0, .int .i64 0, .int .i64 0, .slice none 0 0]
  have h0 := bl_alloc (Below.refl w.heap.size w) (.cells #[.int .i64 0, .int .i64 0, .int .i64 0, .slice none 0 0] 26)
  have hr1 := hr.below h0
  have hz := Z.lt
  go_enter Try.func13, Try.ntmps13
  go_wp2_with fail
  (refine (l01New_any A c l _ hl hr1).mono ?_; rintro e w1 ⟨g, rfl, hg, hc, hb⟩)
  have Z1 := Z.bel hb
  have hb1 := bl_trans h0 hb
  go_wp2_with fail
  (refine (l30Pattern_any g _ hc).mono ?_; rintro e w2 ⟨a, b, m, A2, l2, c2, rfl, hp, ho, hd⟩)
  have Z2 := Z1.grow hd.2 (by omega)
  have hb2 := hb1.grown hd.2 hb1.size (fun k hk => by injection hk with hk; omega)
  have Rf0 := Z2.frozen 0
  have Rf1 := Z2.frozen 1
  have Rf2 := Z2.frozen 2
  have Rf3 := Z2.frozen 3
  have Rc := Z2.c4
  obtain ⟨L, hL⟩ : ∃ L, L = l2.length := ⟨_, rfl⟩
  rw [← hL] at ho ⊢
  have HL := Lib.hid hL
  have R := (((Z2.set_ 0 (.int .i64 a)).set_ 1 (.int .i64 b)).set_ 2 (.int .i64 m)).set_ 3 (.slice A2 L c2)
  have hzz : w.heap.size < w1.heap.size := Z1.lt
  have O := Lib.hid ((((ho.set_ (p := ⟨w.heap.size, 0, none⟩) hzz (.int .i64 a)).set_ (p := ⟨w.heap.size, 1, none⟩) hzz (.int .i64 b)).set_ (p := ⟨w.heap.size, 2, none⟩) hzz (.int .i64 m)).set_ (p := ⟨w.heap.size, 3, none⟩) hzz (.slice A2 L c2)).rd
  have HB := Lib.hid (bl_set (bl_set (bl_set (bl_set hb2 (p := ⟨w.heap.size, 0, none⟩) (Nat.le_refl _) (.int .i64 a)) (p := ⟨w.heap.size, 1, none⟩) (Nat.le_refl _) (.int .i64 b)) (p := ⟨w.heap.size, 2, none⟩) (Nat.le_refl _) (.int .i64 m)) (p := ⟨w.heap.size, 3, none⟩) (Nat.le_refl _) (.slice A2 L c2))
  clear hb2 hb1 hb h0 ho Z Z1 hL hd
  go_wp2_with fail
  exact bodyPost_ret (res_pat (g := w.heap.size) rfl rfl R) rfl ⟨a, b, m, A2, c2, l2, by rw [← HL.out], hp, O.out, HB.out⟩
theorem DrawShape_any (A : Option Addr) (c : Nat) (l : List Int) (w : World) (hl : l.length ≤ 1048576) (hr : RdB w A l) :
    Calls Try.prog 14 #[.slice A l.length c] w fun e w' => ∃ (A : Option Addr) (c : Nat) (l : List Cl), e = .returned (.slice A l.length c) ∧ l.length ≤ 5 ∧ RdC w' A l ∧ Below w.heap.size w w' := by
  go_enter Try.func14, Try.ntmps14
  go_wp2_with fail
  (refine (l01New_any A c l _ hl hr).mono ?_; rintro e w1 ⟨g, rfl, hg, hc, hb⟩)
  go_wp2_with fail
  (refine (l29Shape_any g _ hc).mono ?_; rintro e w2 ⟨A2, c2, l2, rfl, h5, ho, hd⟩)
  go_wp2_with fail
  go_ret
  exact ⟨A2, c2, l2, rfl, h5, ho.rd, hb.grown hd.2 hb.size (fun k hk => by injection hk with hk; omega)⟩
theorem DrawRegion_any (A : Option Addr) (c : Nat) (l : List Int) (w : World) (hl : l.length ≤ 1048576) (hr : RdB w A l) :
    Calls Try.prog 15 #[.slice A l.length c] w fun e w' => ∃ (A : Option Addr) (c : Nat) (l : List Int), e = .returned (.agg #[.slice A l.length c]) ∧ regOk l = true ∧ RdI w' A l ∧ Below w.heap.size w w' := by
  have Z := Blk.new w 31 [.slice none 0 0]
  have h0 := bl_alloc (Below.refl w.heap.size w) (.cells #[.slice none 0 0] 31)
  have hr1 := hr.below h0
  have hz := Z.lt
  go_enter Try.func15, Try.ntmps15
  go_wp2_with fail
  (refine (l01New_any A c l _ hl hr1).mono ?_; rintro e w1 ⟨g, rfl, hg, hc, hb⟩)
  have Z1 := Z.bel hb
  have hb1 := bl_trans h0 hb
  go_wp2_with fail
  (refine (l03Region_any g _ hc).mono ?_; rintro e w2 ⟨A2, l2, c2, rfl, hok, ho, hd⟩)
  have Z2 := Z1.grow hd.2 (by omega)
  have hb2 := hb1.grown hd.2 hb1.size (fun k hk => by injection hk with hk; omega)
  have Rf0 := Z2.frozen 0
  have Rc := Z2.c1
  obtain ⟨L, hL⟩ : ∃ L, L = l2.length := ⟨_, rfl⟩
  rw [← hL] at ho ⊢
  have HL := Lib.hid hL
  have R := Z2.set_ 0 (.slice A2 L c2)
  have hzz : w.heap.size < w1.heap.size := Z1.lt
  have O := Lib.hid (ho.set_ (p := ⟨w.heap.size, 0, none⟩) hzz (.slice A2 L c2)).rd
  have HB := Lib.hid (bl_set hb2 (p := ⟨w.heap.size, 0, none⟩) (Nat.le_refl _) (.slice A2 L c2))
  clear hb2 hb1 hb h0 ho Z Z1 hL hd
  go_wp2_with fail
  exact bodyPost_ret (res_region rfl rfl R) rfl ⟨A2, c2, l2, by rw [← HL.out], hok, O.out, HB.out⟩
end Go.Proofs.Ytdcjhfmkkcakhaa

/-
  The reference's draws (l01New, l01Byte, l01Below, l01Once): a cursor over bytes; what each returns lies in its range; the cursor alone is written. No statement is proved here; at most 1048576 bytes.
-/
import Derived.Test.YtdcjhfmkkcakhaaAt
import Derived.Test.YtdcjhfmkkcakhaaSets
import Derived.Test.YtdcjhfmkkcakhaaApp
import Derived.Deep.DeepMust
import Derived.Deep.CutRange
namespace Go.Proofs.Ytdcjhfmkkcakhaa
open Go.ChangeShapes Go.WideShapes Go.ChangeAt Go.RowKit Go.Deep
set_option linter.unusedVariables false

theorem and255 (a : Int) : ∃ n : Nat, bits .and .i64 a 255 = (n : Int) ∧ n ≤ 255 := by
  refine ⟨(BitVec.ofInt 64 a &&& BitVec.ofInt 64 255).toNat, ?_, ?_⟩
  · show IntKind.i64.wrap ((BitVec.ofInt 64 a &&& BitVec.ofInt 64 255).toNat : Int) = _
    have h : (BitVec.ofInt 64 a &&& BitVec.ofInt 64 255).toNat ≤ 255 := by rw [BitVec.toNat_and]; exact Nat.and_le_right
    rw [IntKind.wrap_i64]
    omega
  · rw [BitVec.toNat_and]; exact Nat.and_le_right
theorem RdB.setFar {w : World} {A : Option Addr} {l : List Int} (h : RdB w A l) {g : Nat} (hA : 0 < l.length → ∀ a, A = some a → a.block ≠ g) (i : Nat) (u : Value) : RdB (w.setCell ⟨g, i, none⟩ u) A l := by
  obtain ⟨⟨h1, h2⟩, h3⟩ := h
  refine ⟨⟨h1, fun hn => ?_⟩, h3⟩
  obtain ⟨b, off, e, hb, hc⟩ := h2 hn
  refine ⟨b, off, e, by simpa using hb, fun j u' hu => ?_⟩
  have hne := hA hn _ e
  have hh := Below.heap_setCell w ⟨g, i, none⟩ u b hne
  have := hc j u' hu
  simp only [World.cell?, hh] at this ⊢
  exact this
theorem RdB.grown {w w' : World} {A : Option Addr} {l : List Int} (h : RdB w A l) {g : Nat} (hA : 0 < l.length → ∀ a, A = some a → a.block ≠ g) (hg : w.grownBy w' (some g)) : RdB w' A l := by
  obtain ⟨⟨h1, h2⟩, h3⟩ := h
  refine ⟨⟨h1, fun hn => ?_⟩, h3⟩
  obtain ⟨b, off, e, hb, hc⟩ := h2 hn
  refine ⟨b, off, e, Nat.lt_of_lt_of_le hb hg.size, fun j u' hu => ?_⟩
  have hne := hA hn _ e
  have hh := hg.block b hb (fun e2 => hne (by injection e2))
  have := hc j u' hu
  simp only [World.cell?, hh] at this ⊢
  exact this
theorem cur_ne {w : World} {A : Option Addr} {l : List Int} (h : RdB w A l) (hl : 0 < l.length) {a : Addr} (ha : A = some a) : a.block < w.heap.size := by
  obtain ⟨b, off, e, hb, _⟩ := h.1.2 hl
  rw [ha] at e
  injection e with e
  subst e
  exact hb
/-- a cursor lies in block g -/
def Cur (w : World) (g : Nat) : Prop := ∃ (A : Option Addr) (c : Nat) (l : List Int) (i : Nat) (h : Int), Blk w g 168 [.slice A l.length c, .int .i64 (i : Int), .int .i64 h] ∧ RdB w A l ∧ (0 < l.length → ∀ a, A = some a → a.block < g) ∧ i ≤ l.length ∧ l.length ≤ 1048576
theorem Cur.lt {w : World} {g : Nat} (h : Cur w g) : g < w.heap.size := by obtain ⟨A, c, l, i, x, h1, _⟩ := h; exact h1.lt
theorem Cur.bel {w w' : World} {g : Nat} (h : Cur w g) (hb : Below w.heap.size w w') : Cur w' g := by
  obtain ⟨A, c, l, i, x, h1, h2, h3⟩ := h
  exact ⟨A, c, l, i, x, h1.bel hb, h2.below hb, h3⟩
/-- what a draw leaves -/
def Drawn (g : Nat) (w w' : World) : Prop := Cur w' g ∧ w.grownBy w' (some g)
theorem grown_trans {w w1 w2 : World} {r : Option Nat} (h : w.grownBy w1 r) (k : w1.grownBy w2 r) : w.grownBy w2 r :=
  ⟨k.os.trans h.os, k.tape.trans h.tape, k.output.trans h.output, Nat.le_trans h.size k.size, fun b hb hne => (k.block b (Nat.lt_of_lt_of_le hb h.size) hne).trans (h.block b hb hne)⟩
theorem grown_of_bel {w w1 : World} (h : Below w.heap.size w w1) (r : Option Nat) : w.grownBy w1 r := ⟨h.os, h.tape, h.output, h.size, fun b hb _ => h.block b hb⟩
theorem grown_setc {w : World} {g i : Nat} {u : Value} : w.grownBy (w.setCell ⟨g, i, none⟩ u) (some g) := ⟨rfl, rfl, rfl, by simp, fun k hk hne => Below.heap_setCell w ⟨g, i, none⟩ u k (by intro e; exact hne (by rw [e]))⟩
theorem Drawn.trans {g : Nat} {w w1 w2 : World} (h : Drawn g w w1) (k : Drawn g w1 w2) : Drawn g w w2 := ⟨k.1, grown_trans h.2 k.2⟩
theorem Drawn.bel {g : Nat} {w w1 w2 : World} (h : Drawn g w w1) (k : Below w1.heap.size w1 w2) : Drawn g w w2 := ⟨h.1.bel k, grown_trans h.2 (grown_of_bel k _)⟩
theorem Drawn.start {g : Nat} {w w1 : World} (h : Cur w g) (k : Below w.heap.size w w1) : Drawn g w w1 := ⟨h.bel k, grown_of_bel k _⟩
set_option maxHeartbeats 1000000 in
theorem l01New_any (A : Option Addr) (c : Nat) (l : List Int) (w : World) (hl : l.length ≤ 1048576) (hr : RdB w A l) :
    Calls Try.prog 86 #[.slice A l.length c] w fun e w' => ∃ g, e = .returned (.pointer (some ⟨g, 0, none⟩)) ∧ w.heap.size ≤ g ∧ Cur w' g ∧ Below w.heap.size w w' := by
  have Hr := Lib.hid hr
  clear hr
  go_enter Try.func86, Try.ntmps86
  go_wp2_with fail
  go_loop [3, 4] (fun p q => ∃ (i : Nat) (x : Int), i ≤ l.length ∧ i ≤ 4000 ∧ q = .int .i64 (i : Int) ∧ p = .int .i64 x) (fun _ q => 4000 - (intOf q).toNat)
  case atStart => exact ⟨0, _, by omega, by omega, rfl, rfl⟩
  case round =>
    obtain ⟨i, x, hi, hi4, rfl, rfl⟩ := hrel
    by_cases hlt : i < l.length
    · have q1 : decide ((i : Int) < (l.length : Int)) = true := decide_eq_true (by omega)
      by_cases hlt4 : i < 4000
      · have q2 : decide ((i : Int) < 4000) = true := decide_eq_true (by omega)
        obtain ⟨b, off, y, rfl, hb, hx, hx0, hx1, hcx⟩ := Hr.out.at_ hlt
        clear hx
        go_wp2_with fail
        go_round
        case rel => exact ⟨i + 1, _, by omega, by omega, by go_num, rfl⟩
        case measure => simp [intOf]; omega
      · have q2 : decide ((i : Int) < 4000) = false := decide_eq_false (by omega)
        go_wp2_with fail
        go_ret
        exact ⟨w.heap.size, rfl, Nat.le_refl _, ⟨A, c, l, 0, x, Blk.new w _ _, Hr.out.below (Below.alloc (Below.refl _ _) (Nat.le_refl _) _), fun h a ha => cur_ne Hr.out h ha, Nat.zero_le _, hl⟩, bl_alloc (Below.refl _ _) _⟩
    · have q1 : decide ((i : Int) < (l.length : Int)) = false := decide_eq_false (by omega)
      go_wp2_with fail
      go_ret
      exact ⟨w.heap.size, rfl, Nat.le_refl _, ⟨A, c, l, 0, x, Blk.new w _ _, Hr.out.below (Below.alloc (Below.refl _ _) (Nat.le_refl _) _), fun h a ha => cur_ne Hr.out h ha, Nat.zero_le _, hl⟩, bl_alloc (Below.refl _ _) _⟩
set_option maxHeartbeats 1000000 in
theorem l01Byte_any (g : Nat) (w : World) (h : Cur w g) :
    Calls Try.prog 202 #[.pointer (some ⟨g, 0, none⟩)] w fun e w' => ∃ x : Nat, e = .returned (.int .i64 (x : Int)) ∧ x ≤ 255 ∧ Drawn g w w' := by
  obtain ⟨A, c, l, i, h0, hB, hr, hA9, hi, hl⟩ := h
  have hA : 0 < l.length → ∀ a, A = some a → a.block ≠ g := fun h a e => Nat.ne_of_lt (hA9 h a e)
  have HA9 := Lib.hid hA9
  clear hA9
  obtain ⟨T, hT⟩ : ∃ T : World → Int → Nat → Prop, ∀ W x k, T W x k = (Blk W g 168 [.slice A l.length c, .int .i64 (k : Int), .int .i64 x] ∧ w.grownBy W (some g) ∧ RdB W A l) := ⟨fun W x k => _, fun _ _ _ => rfl⟩
  have hc := hB.c3
  have hf := hB.frozen 2
  have Hr := Lib.hid hr
  have HB := Lib.hid hB
  have HA := Lib.hid hA
  have HT := Lib.hid hT
  clear hr hB hA hT
  go_enter Try.func202, Try.ntmps202
  go_upto_region 1 with fail
  go_cut [2] from 4 to 12 (fun s2 wx => s2 = .int .i64 0 ∧ ∃ x, T wx x i)
  case first =>
    go_wp2_with fail
    go_meet
    exact ⟨rfl, _, by rw [HT.out]; exact ⟨HB.out.set_ 2 _, grown_setc, Hr.out.setFar HA.out 2 _⟩⟩
  case rest =>
  obtain ⟨rfl, x1, t1⟩ := hcut
  clear hc hf
  rw [HT.out] at t1
  obtain ⟨B1, g1, r1⟩ := t1
  have B1c := B1.c3
  have q0 := bq_cell B1c.1
  have q1 := bq_cell B1c.2.1
  have q2 := bq_cell B1c.2.2
  have HB1 := Lib.hid B1
  have Hr1 := Lib.hid r1
  clear HB Hr B1 r1 B1c
  go_upto_region 2 with fail
  go_cut [3] from 13 to 24 (fun s3 wx' => ∃ y : Nat, y ≤ 255 ∧ s3 = .int .i64 (y : Int) ∧ T wx' x1 i)
  case first =>
    (refine wp_region_quiet_bel (by kernel_rfl) (by kernel_rfl) ?_; (repeat (first | go_big_quiet_step (fail) | quiet_step (fail))); refine wpQuiet_nil ?_; intro wq hw0; obtain ⟨⟨_, hbq⟩, hw1⟩ := hw0; subst hw1; try dsimp only)
    go_wp2_with fail
    go_meet
    exact ⟨(and255 _).choose, (and255 _).choose_spec.2, congrArg (Value.int .i64) (and255 _).choose_spec.1, by rw [HT.out]; exact ⟨HB1.out.bel hbq, grown_trans g1 (grown_of_bel hbq _), Hr1.out.below hbq⟩⟩
  case rest =>
  obtain ⟨y, hy, rfl, t2⟩ := hcut
  clear q0 q1 q2 HB1 Hr1 g1
  rw [HT.out] at t2
  obtain ⟨B2, g2, r2⟩ := t2
  have B2c := B2.c3
  have q0 := bq_cell B2c.1
  have q1 := bq_cell B2c.2.1
  have HB2 := Lib.hid B2
  have Hr2 := Lib.hid r2
  have Hg2 := Lib.hid g2
  clear B2 r2 B2c g2
  by_cases hlt : i < l.length
  · obtain ⟨b, off, x, rfl, hb, hx, hx0, hx1, hcx⟩ := Hr2.out.at_ hlt
    have hlt' : decide ((i : Int) < (l.length : Int)) = true := decide_eq_true (by omega)
    clear hx
    go_wp2_with fail
    (refine wp_region_quiet_bel (by kernel_rfl) (by kernel_rfl) ?_; (repeat (first | go_big_quiet_step (fail) | quiet_step (fail))); refine wpQuiet_nil ?_; intro wq hw0; obtain ⟨⟨_, hbq⟩, hw1⟩ := hw0; subst hw1; try dsimp only)
    have B3 := HB2.out.bel hbq
    have r3 := Hr2.out.below hbq
    have g3 := grown_trans Hg2.out (grown_of_bel hbq _)
    have B3c := B3.c3
    have k0 := bq_cell B3c.1
    have k1 := bq_cell B3c.2.1
    have k2 := bq_cell ((hbq.cell (p := ⟨b, off + i, none⟩) hb).trans hcx)
    have HB3 := Lib.hid B3
    have Hr3 := Lib.hid r3
    have Hg3 := Lib.hid g3
    have hi0 : (0 : Int) ≤ (i : Int) := by omega
    have hil : (i : Int) < (l.length : Int) := by omega
    obtain ⟨xn, rfl⟩ : ∃ xn : Nat, x = xn := ⟨x.toNat, by omega⟩
    have hw : IntKind.i64.wrap ((y : Int) + (xn : Int)) = (y : Int) + (xn : Int) := IntWalk.i64_in _ (by omega)
    have hwx : IntKind.i64.wrap (xn : Int) = (xn : Int) := IntWalk.i64_in _ (by omega)
    clear B3 r3 g3 B3c q0 q1 hcx HB2 Hr2 Hg2 hbq hb
    go_upto_region 4 with fail
    go_cut [3] from 35 to 48 (fun s3 wx' => ∃ z : Nat, z ≤ 255 ∧ s3 = .int .i64 (z : Int) ∧ T wx' x1 i)
    case first =>
      (refine wp_region_quiet_bel (by kernel_rfl) (by kernel_rfl) ?_; (repeat (first | go_big_quiet_step (fail) | quiet_step (fail))); refine wpQuiet_nil ?_; intro wq hw0; obtain ⟨⟨_, hbq⟩, hw1⟩ := hw0; subst hw1; try dsimp only)
      go_wp2_with fail
      go_meet
      exact ⟨(and255 _).choose, (and255 _).choose_spec.2, congrArg (Value.int .i64) (and255 _).choose_spec.1, by rw [HT.out]; exact ⟨HB3.out.bel hbq, grown_trans Hg3.out (grown_of_bel hbq _), Hr3.out.below hbq⟩⟩
    case rest =>
      obtain ⟨z, hz, rfl, t4⟩ := hcut
      rw [HT.out] at t4
      obtain ⟨B4, g4, r4⟩ := t4
      have B4c := B4.c3
      have B4f := B4.frozen 1
      have HB4 := Lib.hid B4
      have Hr4 := Lib.hid r4
      have Hg4 := Lib.hid g4
      clear B4 r4 g4 k0 k1 k2 HB3 Hr3 Hg3
      go_wp2_with fail
      go_ret
      exact ⟨z, rfl, hz, ⟨some ⟨b, off, none⟩, c, l, i + 1, x1, HB4.out.set_ 1 _, Hr4.out.setFar HA.out 1 _, HA9.out, hlt, hl⟩, grown_trans Hg4.out grown_setc⟩
  · have hlt' : decide ((i : Int) < (l.length : Int)) = false := decide_eq_false (by omega)
    go_wp2_with fail
    (refine wp_region_quiet_bel (by kernel_rfl) (by kernel_rfl) ?_; (repeat (first | go_big_quiet_step (fail) | quiet_step (fail))); refine wpQuiet_nil ?_; intro wq hw0; obtain ⟨⟨_, hbq⟩, hw1⟩ := hw0; subst hw1; try dsimp only)
    go_wp2_with fail
    go_ret
    exact ⟨y, rfl, hy, ⟨A, c, l, i, x1, HB2.out.bel hbq, Hr2.out.below hbq, HA9.out, hi, hl⟩, grown_trans Hg2.out (grown_of_bel hbq _)⟩
set_option maxHeartbeats 1000000 in
theorem l01Below_any (g n : Nat) (w : World) (hn : 0 < n) (hn2 : n ≤ 1048576) (h : Cur w g) :
    Calls Try.prog 174 #[.pointer (some ⟨g, 0, none⟩), .int .i64 (n : Int)] w fun e w' => ∃ x : Nat, e = .returned (.int .i64 (x : Int)) ∧ x < n ∧ Drawn g w w' := by
  by_cases h256 : n ≤ 256
  · go_enter Try.func174, Try.ntmps174
    go_wp2_with (go_at_call 202; go_must (refine (l01Byte_any g _ h).mono ?_; rintro e w1 ⟨x, rfl, hx, hd⟩; have hx8 : x ≤ 255 := hx; have hm : ((x : Int)).tmod (n : Int) = ((x % n : Nat) : Int) := (by rw [Int.tmod_eq_emod_of_nonneg (by omega)]; push_cast; rfl)))
    go_ret
    exact ⟨x % n, rfl, Nat.mod_lt _ hn, hd⟩
  · go_enter Try.func174, Try.ntmps174
    go_wp2_with fail
    (refine (l01Byte_any g _ h).mono ?_; rintro e w1 ⟨x1, rfl, hx1, hd1⟩)
    go_wp2_with fail
    (refine (l01Byte_any g _ hd1.1).mono ?_; rintro e w2 ⟨x2, rfl, hx2, hd2⟩)
    go_wp2_with fail
    (refine (l01Byte_any g _ hd2.1).mono ?_; rintro e w3 ⟨x3, rfl, hx3, hd3⟩)
    go_wp2_with fail
    (refine (l01Byte_any g _ hd3.1).mono ?_; rintro e w4 ⟨x4, rfl, hx4, hd4⟩)
    obtain ⟨s, hs⟩ : ∃ s : Nat, s = x1 * 16777216 + x2 * 65536 + x3 * 256 + x4 := ⟨_, rfl⟩
    have hsi : (x1 : Int) * 16777216 + (x2 : Int) * 65536 + (x3 : Int) * 256 + (x4 : Int) = (s : Int) := by omega
    have hm : ((s : Int)).tmod (n : Int) = ((s % n : Nat) : Int) := (by rw [Int.tmod_eq_emod_of_nonneg (by omega)]; push_cast; rfl)
    clear hs
    go_wp2_with fail
    go_ret
    exact ⟨s % n, rfl, Nat.mod_lt _ hn, ((hd1.trans hd2).trans hd3).trans hd4⟩
theorem l01Once_any (g n : Nat) (w : World) (hn : 0 < n) (hn2 : n ≤ 1048576) (h : Cur w g) :
    Calls Try.prog 172 #[.pointer (some ⟨g, 0, none⟩), .int .i64 (n : Int)] w fun e w' => ∃ b : Bool, e = .returned (.bool b) ∧ Drawn g w w' := by
  go_enter Try.func172, Try.ntmps172
  go_wp2_with (go_at_call 174; go_must (refine (l01Below_any g n _ hn hn2 h).mono ?_; rintro e w1 ⟨x, rfl, hx, hd⟩))
  go_ret
  exact ⟨_, rfl, hd⟩
end Go.Proofs.Ytdcjhfmkkcakhaa

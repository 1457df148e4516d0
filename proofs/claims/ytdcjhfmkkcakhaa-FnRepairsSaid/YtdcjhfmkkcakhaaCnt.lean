/-
  Contracts of l07Count, CountTilings and RectangleCount of the reference: the number of coverings by dominoes; nothing that was there is written; the region is valid (l07Count), no condition (the others).
-/
import Derived.Test.YtdcjhfmkkcakhaaDp
import Derived.Test.YtdcjhfmkkcakhaaRectS
import Derived.Deep.CutRange
import Derived.StillTailTactics
import Derived.Deep.DeepMust
namespace Go.Proofs.Ytdcjhfmkkcakhaa
open Go.ChangeShapes Go.WideShapes Go.ChangeAt Go.RowKit Go.Deep
set_option linter.unusedVariables false

theorem getD_at {l : List Int} {i : Nat} (h : i < l.length) : l[i]? = some (l.getD i 0) := by
  rw [List.getD_eq_getElem?_getD, List.getElem?_eq_getElem h]; rfl
theorem regBit {l : List Int} (h : regOk l = true) {k X Y : Nat} (hk : k = 8 * Y + X) (hX : X < 8) : regHas l (X : Int) (Y : Int) = (regSet l).testBit k := by
  rw [regSet_bit h]
  unfold cellOf
  dsimp only
  rw [show ((k : Int) % 8) = (X : Int) by omega, show ((k : Int) / 8) = (Y : Int) by omega]
theorem pow_small {X : Nat} (h : X < 8) : ∃ q : Nat, q = 2 ^ X ∧ q ≤ 128 ∧ 1 ≤ q ∧ wrap64 ((2 : Int) ^ X) = (q : Int) := by
  have h1 : 2 ^ X ≤ 2 ^ 7 := Nat.pow_le_pow_right (by decide) (by omega)
  refine ⟨2 ^ X, rfl, h1, Nat.pow_pos (by decide), ?_⟩
  have := wrap_pow_i (n := X) (by omega)
  rw [wrap_i64] at this
  exact this
theorem countD_at {R k : Nat} (h : k = 64) : countD R = (dpL R k).getD 0 0 := by subst h; unfold countD; exact Eq.refl _
theorem putAll_app (n : Int) : ∀ (a b : List Nat) (l : List Int), putAll n l (a ++ b) = putAll n (putAll n l a) b
  | [], _, _ => rfl
  | t :: a, b, l => putAll_app n a b (addAt l t n)
theorem i64_bit0 (s n : Nat) (hs : s < 9223372036854775808) : (bits BinOp.and IntKind.i64 ((s : Int) / 2 ^ n) 1 == 0) = !s.testBit n := by
  rw [cast_div_pow]
  have h1 : s >>> n < 9223372036854775808 := Nat.lt_of_le_of_lt (Nat.shiftRight_le _ _) hs
  have e : bits BinOp.and IntKind.i64 ((s >>> n : Nat) : Int) ((1 : Nat) : Int) = ((s >>> n &&& 1 : Nat) : Int) := i64_and_nat _ _ h1 (by decide)
  have h2 := shr_bit s n
  rw [show (1 : Int) = ((1 : Nat) : Int) from rfl, e]
  have h3 : s >>> n &&& 1 = 0 ∨ s >>> n &&& 1 = 1 := by
    rw [Nat.and_one_is_mod]; omega
  rcases h3 with h3 | h3
  · rw [h3] at h2 ⊢; simp at h2; simp [h2]
  · rw [h3] at h2 ⊢; simp at h2; simp [h2]
theorem or_lt8 {s x : Nat} (hs : s < 256) (hx : x < 8) : s ||| 2 ^ x < 256 := Nat.or_lt_two_pow (n := 8) hs (Nat.pow_lt_pow_right (by decide) hx)
theorem or_i64 {s x : Nat} (hs : s < 256) (hx : x < 8) : bits BinOp.or IntKind.i64 (s : Int) ((2 ^ x : Nat) : Int) = ((s ||| 2 ^ x : Nat) : Int) := by
  have h1 : 2 ^ x ≤ 2 ^ 7 := Nat.pow_le_pow_right (by decide) (by omega)
  exact i64_or_nat s (2 ^ x) (by omega) (Nat.lt_of_le_of_lt h1 (by decide))
theorem sub_pow {s q X : Nat} (h : s.testBit X = true) (hq : q = 2 ^ X) : ∃ s2 : Nat, s2 ≤ s ∧ s2 = s - 2 ^ X ∧ (s : Int) - (q : Int) = (s2 : Int) := by
  have h1 := Nat.ge_two_pow_of_testBit h
  rw [← hq] at h1 ⊢
  exact ⟨s - q, Nat.sub_le _ _, rfl, by omega⟩
theorem trans_a {R k s X : Nat} (hX : X = k % 8) (h : R.testBit k = false) (hc : s.testBit X = false) : trans R k s = [s] := by
  subst hX; unfold trans; rw [if_neg (by rw [h]; decide), if_neg (by rw [hc]; decide)]
theorem trans_b {R k s X : Nat} (hX : X = k % 8) (h : R.testBit k = false) (hc : s.testBit X = true) : trans R k s = [] := by
  subst hX; unfold trans; rw [if_neg (by rw [h]; decide), if_pos hc]
theorem trans_c {R k s X : Nat} (hX : X = k % 8) (h : R.testBit k = true) (hc : s.testBit X = true) : trans R k s = [s - 2 ^ X] := by
  subst hX; unfold trans; rw [if_pos h, if_pos hc]
theorem trans_d {R k s X : Nat} (hX : X = k % 8) (h : R.testBit k = true) (hc : s.testBit X = false) : trans R k s = (if R.testBit (k + 8) = true then [s ||| 2 ^ X] else []) ++ (if (decide (X < 7) && (R.testBit (k + 1) && !s.testBit (X + 1))) = true then [s ||| 2 ^ (X + 1)] else []) := by
  subst hX; unfold trans; rw [if_pos h, if_neg (by rw [hc]; decide)]
theorem put_one (n : Int) (l : List Int) (t : Nat) {v u : Int} (hv : v = l.getD t 0) (hu : wrap64 (v + n) = u) : putAll n l [t] = l.set t u := by
  show addAt l t n = _
  rw [addAt, ← hv, hu]
theorem put_cons (n : Int) (T : List Nat) (c : List Int) (t : Nat) {v u : Int} (hv : v = c.getD t 0) (hu : wrap64 (v + n) = u) : putAll n (putAll n c [t]) T = putAll n (c.set t u) T := by rw [put_one n c t hv hu]
theorem below_alts {l : List Int} (h : regOk l = true) {R k X Y s : Nat} (hR : R = regSet l) (hk : k = 8 * Y + X) (hX : X = k % 8) (hX8 : X < 8) (hk64 : k < 64) (hs : s < 256) {T8 : List Nat} (hT : T8 = if R.testBit (k + 8) = true then [s ||| 2 ^ X] else []) :
    (cellOk (X : Int) ((Y : Int) + 1) = false ∧ T8 = []) ∨ (cellOk (X : Int) ((Y : Int) + 1) = true ∧ regHas l (X : Int) ((Y : Int) + 1) = false ∧ T8 = []) ∨
      (cellOk (X : Int) ((Y : Int) + 1) = true ∧ regHas l (X : Int) ((Y : Int) + 1) = true ∧ ∃ t : Nat, t < 256 ∧ (∀ q : Nat, q = 2 ^ X → bits BinOp.or IntKind.i64 (s : Int) (q : Int) = (t : Int)) ∧ T8 = [t]) := by
  have e : regHas l (X : Int) ((Y : Int) + 1) = R.testBit (k + 8) := by rw [hR]; exact regBit (Y := Y + 1) h (by omega) hX8
  by_cases h1 : cellOk (X : Int) ((Y : Int) + 1) = true
  · cases h2 : R.testBit (k + 8)
    · exact .inr (.inl ⟨h1, e.trans h2, by rw [hT, h2]; rfl⟩)
    · exact .inr (.inr ⟨h1, e.trans h2, _, or_lt8 hs hX8, fun q hq => by rw [hq]; exact or_i64 hs hX8, by rw [hT, h2]; rfl⟩)
  · refine .inl ⟨by simpa using h1, ?_⟩
    cases h2 : R.testBit (k + 8)
    · rw [hT, h2]; rfl
    · have := bit_lt (by rw [hR]; exact regSet_lt h) h2
      exact absurd (cellOk_iff.2 (by omega)) h1
theorem right_alts {l : List Int} (h : regOk l = true) {R k X Y s : Nat} (hR : R = regSet l) (hk : k = 8 * Y + X) (hX8 : X < 8) (hY8 : Y < 8) (hk64 : k < 64) (hs : s < 256) {T1 : List Nat}
    (hT : T1 = if (decide (X < 7) && (R.testBit (k + 1) && !s.testBit (X + 1))) = true then [s ||| 2 ^ (X + 1)] else []) :
    (cellOk ((X : Int) + 1) (Y : Int) = false ∧ T1 = []) ∨ (cellOk ((X : Int) + 1) (Y : Int) = true ∧ regHas l ((X : Int) + 1) (Y : Int) = false ∧ T1 = []) ∨
      (cellOk ((X : Int) + 1) (Y : Int) = true ∧ regHas l ((X : Int) + 1) (Y : Int) = true ∧ s.testBit (X + 1) = true ∧ T1 = []) ∨
      (cellOk ((X : Int) + 1) (Y : Int) = true ∧ regHas l ((X : Int) + 1) (Y : Int) = true ∧ s.testBit (X + 1) = false ∧ ∃ t : Nat, t < 256 ∧ (∀ q : Nat, q = 2 ^ (X + 1) → bits BinOp.or IntKind.i64 (s : Int) (q : Int) = (t : Int)) ∧ T1 = [t]) := by
  by_cases h7 : X < 7
  · have e : regHas l ((X : Int) + 1) (Y : Int) = R.testBit (k + 1) := by rw [hR]; exact regBit (X := X + 1) h (by omega) (by omega)
    have h1 : cellOk ((X : Int) + 1) (Y : Int) = true := cellOk_iff.2 (by omega)
    rw [decide_eq_true h7, Bool.true_and] at hT
    cases h2 : R.testBit (k + 1)
    · exact .inr (.inl ⟨h1, e.trans h2, by rw [hT, h2]; rfl⟩)
    · cases h3 : s.testBit (X + 1)
      · exact .inr (.inr (.inr ⟨h1, e.trans h2, rfl, s ||| 2 ^ (X + 1), or_lt8 hs (by omega), fun q hq => by rw [hq]; exact or_i64 hs (by omega), by rw [hT, h2, h3]; rfl⟩))
      · exact .inr (.inr (.inl ⟨h1, e.trans h2, rfl, by rw [hT, h2, h3]; rfl⟩))
  · refine .inl ⟨?_, by rw [hT, decide_eq_false h7]; rfl⟩
    cases hc : cellOk ((X : Int) + 1) (Y : Int) with
    | false => rfl
    | true => have := cellOk_iff.1 hc; omega
section
variable {l : List Int} {X Y s : Nat} {T : List Nat}
theorem right_bool (h : (cellOk ((X : Int) + 1) (Y : Int) = false ∧ T = []) ∨ (cellOk ((X : Int) + 1) (Y : Int) = true ∧ regHas l ((X : Int) + 1) (Y : Int) = false ∧ T = []) ∨
      (cellOk ((X : Int) + 1) (Y : Int) = true ∧ regHas l ((X : Int) + 1) (Y : Int) = true ∧ s.testBit (X + 1) = true ∧ T = []) ∨
      (cellOk ((X : Int) + 1) (Y : Int) = true ∧ regHas l ((X : Int) + 1) (Y : Int) = true ∧ s.testBit (X + 1) = false ∧ ∃ t : Nat, t < 256 ∧ (∀ q : Nat, q = 2 ^ (X + 1) → bits BinOp.or IntKind.i64 (s : Int) (q : Int) = (t : Int)) ∧ T = [t])) :
    ∃ rb : Bool, (T = [] ∧ rb = false) ∨ (∃ t : Nat, rb = true ∧ t < 256 ∧ (∀ q : Nat, q = 2 ^ (X + 1) → bits BinOp.or IntKind.i64 (s : Int) (q : Int) = (t : Int)) ∧ T = [t] ∧ X < 7) := by
  rcases h with ⟨_, a⟩ | ⟨_, _, a⟩ | ⟨_, _, _, a⟩ | ⟨a1, _, _, t, a4, a5, a⟩
  · exact ⟨false, .inl ⟨a, rfl⟩⟩
  · exact ⟨false, .inl ⟨a, rfl⟩⟩
  · exact ⟨false, .inl ⟨a, rfl⟩⟩
  · exact ⟨true, .inr ⟨t, rfl, a4, a5, a, by have := cellOk_iff.1 a1; omega⟩⟩
theorem right_no {rb : Bool} {p : Nat → Prop} {r : Prop} (h : (T = [] ∧ rb = false) ∨ (∃ t : Nat, rb = true ∧ t < 256 ∧ p t ∧ T = [t] ∧ r)) (e : T = []) : rb = false := by
  rcases h with ⟨_, h⟩ | ⟨t, _, _, _, h, _⟩
  · exact h
  · rw [e] at h; cases h
theorem right_yes {rb : Bool} {p : Nat → Prop} {r : Prop} {t : Nat} (h : (T = [] ∧ rb = false) ∨ (∃ t : Nat, rb = true ∧ t < 256 ∧ p t ∧ T = [t] ∧ r)) (e : T = [t]) : rb = true := by
  rcases h with ⟨h, _⟩ | ⟨t, h, _⟩
  · rw [e] at h; cases h
  · exact h
theorem below_bool (h : (cellOk (X : Int) ((Y : Int) + 1) = false ∧ T = []) ∨ (cellOk (X : Int) ((Y : Int) + 1) = true ∧ regHas l (X : Int) ((Y : Int) + 1) = false ∧ T = []) ∨
      (cellOk (X : Int) ((Y : Int) + 1) = true ∧ regHas l (X : Int) ((Y : Int) + 1) = true ∧ ∃ t : Nat, t < 256 ∧ (∀ q : Nat, q = 2 ^ X → bits BinOp.or IntKind.i64 (s : Int) (q : Int) = (t : Int)) ∧ T = [t])) :
    ∃ bb : Bool, (T = [] ∧ bb = false) ∨ (∃ t : Nat, bb = true ∧ t < 256 ∧ (∀ q : Nat, q = 2 ^ X → bits BinOp.or IntKind.i64 (s : Int) (q : Int) = (t : Int)) ∧ T = [t]) := by
  rcases h with ⟨_, a⟩ | ⟨_, _, a⟩ | ⟨_, _, t, a4, a5, a⟩
  · exact ⟨false, .inl ⟨a, rfl⟩⟩
  · exact ⟨false, .inl ⟨a, rfl⟩⟩
  · exact ⟨true, .inr ⟨t, rfl, a4, a5, a⟩⟩
theorem below_no {rb : Bool} {p : Nat → Prop} (h : (T = [] ∧ rb = false) ∨ (∃ t : Nat, rb = true ∧ t < 256 ∧ p t ∧ T = [t])) (e : T = []) : rb = false := by
  rcases h with ⟨_, h⟩ | ⟨t, _, _, _, h⟩
  · exact h
  · rw [e] at h; cases h
theorem below_yes {rb : Bool} {p : Nat → Prop} {t : Nat} (h : (T = [] ∧ rb = false) ∨ (∃ t : Nat, rb = true ∧ t < 256 ∧ p t ∧ T = [t])) (e : T = [t]) : rb = true := by
  rcases h with ⟨h, _⟩ | ⟨t, h, _⟩
  · rw [e] at h; cases h
  · exact h
end
set_option maxRecDepth 100000 in
set_option maxHeartbeats 8000000 in
theorem l07Count_any (A : Option Addr) (c : Nat) (l : List Int) (w : World) (hreg : regOk l = true) (hr : RdI w A l) :
    Calls Try.prog 129 #[.agg #[.slice A l.length c]] w fun e w' => e = .returned (.int .i64 (countD (regSet l))) ∧ Below w.heap.size w w' := by
  have hB := bl_alloc (Below.refl w.heap.size w) (.cells #[.slice A l.length c] 31)
  have P := Blk.new w 31 [.slice A l.length c]
  have Pc := P.c1
  have hr' := Lib.hid hr
  clear hr
  obtain ⟨Z, hZ⟩ : ∃ Z : List Value, Z = List.replicate 256 (.int .i64 0) := ⟨_, rfl⟩
  have hmk : ∀ w : World, (Instr.makeSlice 24 (.int .i64 256) (.int .i64 256)).run Try.prog w = .ok (.slice (some ⟨w.heap.size, 0, none⟩) 256 256) (w.alloc (.cells Z.toArray 3)) := fun w => by
    rw [hZ, ← made_list]
    exact run_make_row' (P := Try.prog) 24 3 (.int .i64 0) 8 Try.underlying24 info_int rfl .i64 .i64 256 (by omega) (by omega) (w := w)
  have hz0 : Z[0]? = some (.int .i64 0) := by rw [hZ]; rfl
  have N0 := (Blk.new2 w (.cells #[.slice A l.length c] 31) 3 Z).cell 0
  rw [hz0] at N0
  have Nf := (Blk.new2 w (.cells #[.slice A l.length c] 31) 3 Z).frozen 0
  have N := Lib.hid (Blk.new2 w (.cells #[.slice A l.length c] 31) 3 (Z.set 0 (.int .i64 1)))
  have hZ1 : Z.set 0 (.int .i64 1) = (dpL (regSet l) 0).map cI := by rw [hZ, dpL, List.map_set, List.map_replicate]; rfl
  have HZ1 := Lib.hid hZ1
  have HZ := Lib.hid (show Z = (List.replicate 256 (0 : Int)).map cI by rw [hZ, List.map_replicate]; rfl)
  have hB2 := Lib.hid (bl_alloc hB (.cells (Z.set 0 (.int .i64 1)).toArray 3))
  have P2 := Lib.hid (P.alloc (.cells (Z.set 0 (.int .i64 1)).toArray 3))
  clear hZ hz0 hZ1 P hB
  go_enter Try.func129, Try.ntmps129
  go_wp2_with fail
  clear N0 Nf Pc
  go_loopw [4, 5] (fun v i wr => ∃ k g : Nat, k ≤ 64 ∧ i = .int .i64 k ∧ v = .slice (some ⟨g, 0, none⟩) 256 256 ∧ w.heap.size < g ∧ Hid (Blk wr g 3 ((dpL (regSet l) k).map cI)) ∧ Hid (Blk wr w.heap.size 31 [.slice A l.length c]) ∧ Hid (Below w.heap.size w wr)) (fun _ i _ => 64 - (intOf i).toNat)
  case atStart => exact ⟨0, w.heap.size + 1, by omega, rfl, rfl, by omega, by rw [← HZ1.out]; exact N, P2, hB2⟩
  case round =>
    obtain ⟨k, g, hk, rfl, rfl, hg, HN, HP, HB⟩ := hrel
    clear N HZ1 hB2 P2
    obtain ⟨R, hR⟩ : ∃ R, R = regSet l := ⟨_, rfl⟩
    rw [← hR] at HN ⊢
    by_cases hk64 : k < 64
    · obtain ⟨X, hX⟩ : ∃ X, X = k % 8 := ⟨_, rfl⟩
      obtain ⟨Y, hY⟩ : ∃ Y, Y = k / 8 := ⟨_, rfl⟩
      have hkXY : k = 8 * Y + X := by omega
      have hX8 : X < 8 := by omega
      have hY8 : Y < 8 := by omega
      have hca : Hid (∀ w : World, Calls Try.prog 100 #[.int .i64 k] w fun e w' => e = .returned (.tuple #[.agg #[.int .i64 (X : Int), .int .i64 (Y : Int)], .bool true]) ∧ Below w.heap.size w w') := Lib.hid (fun w => by
        have := CellAt_s k w hk64
        unfold cellOf at this
        dsimp only at this
        rwa [show ((k : Int) % 8) = (X : Int) by omega, show ((k : Int) / 8) = (Y : Int) by omega] at this)
      have hm : (k : Int).tmod 8 = (X : Int) := by rw [Int.tmod_eq_emod_of_nonneg (by omega)]; omega
      have Pc := HP.out.c1
      have hgl := HN.out.lt
      have HR := Lib.hid hR
      have HX := Lib.hid (And.intro hX hkXY)
      have hok : cellOk (X : Int) (Y : Int) = true := cellOk_iff.2 (by omega)
      have hHas : regHas l (X : Int) (Y : Int) = R.testBit k := by rw [hR]; exact regBit hreg hkXY hX8
      have HH := Lib.hid hHas
      have HOK := Lib.hid hok
      have hZc : Z.length = 256 := by rw [HZ.out, List.length_map, List.length_replicate]
      clear hX hY hkXY hR hHas hok hZc
      go_wp2_with (go_at_call 100; refine (hca.out _).mono ?_; rintro e wn ⟨rfl, hbn⟩; have P2 := Lib.hid (HP.out.bel hbn); have N2 := Lib.hid (HN.out.bel hbn); have B2 := Lib.hid (bl_trans HB.out hbn); have s2 := hbn.size; clear hbn Pc HP HN HB hca)
      have hB3 := Lib.hid (bl_alloc (bl_alloc B2.out (.cells #[.int .i64 (X : Int), .int .i64 (Y : Int)] 35)) (.cells Z.toArray 3))
      have P3 := Lib.hid ((P2.out.alloc (.cells #[.int .i64 (X : Int), .int .i64 (Y : Int)] 35)).alloc (.cells Z.toArray 3))
      have N3 := Lib.hid ((N2.out.alloc (.cells #[.int .i64 (X : Int), .int .i64 (Y : Int)] 35)).alloc (.cells Z.toArray 3))
      have C3 := Lib.hid ((Blk.new wn 35 [.int .i64 (X : Int), .int .i64 (Y : Int)]).alloc (.cells Z.toArray 3))
      have M3 := Lib.hid (Blk.new2 wn (.cells #[.int .i64 (X : Int), .int .i64 (Y : Int)] 35) 3 Z)
      have hgn : g < wn.heap.size := by omega
      have hwn : w.heap.size < wn.heap.size := by omega
      clear P2 N2 B2
      obtain ⟨z, hz⟩ : ∃ z, z = wn.heap.size := ⟨_, rfl⟩
      rw [← hz] at C3 M3 hgn hwn ⊢
      obtain ⟨V, hV⟩ : ∃ V, V = dpL R k := ⟨_, rfl⟩
      have HV := Lib.hid hV
      have hVl : V.length = 256 := by rw [hV]; exact dpL_len R k
      have hV64 := Lib.hid (show All64 V by rw [hV]; exact dpL_64 R k)
      rw [← hV] at N3
      clear hV
      go_loopw [10] (fun i wr => ∃ s : Nat, s ≤ 256 ∧ i = .int .i64 s ∧ Hid (Blk wr (z + 1) 3 ((rowTo R k V s).map cI)) ∧ Hid (Blk wr z 35 [.int .i64 (X : Int), .int .i64 (Y : Int)]) ∧ Hid (Blk wr g 3 (V.map cI)) ∧ Hid (Blk wr w.heap.size 31 [.slice A l.length c]) ∧ Hid (Below w.heap.size w wr)) (fun i _ => 256 - (intOf i).toNat)
      case atStart => exact ⟨0, by omega, rfl, by rw [rowTo, ← HZ.out]; exact M3, C3, N3, P3, hB3⟩
      case round =>
        obtain ⟨s, hs, rfl, HM, HC, HN, HP, HB⟩ := hrel
        clear hB3 P3 N3 C3 M3 hz
        obtain ⟨cur, hcur⟩ : ∃ cur, cur = rowTo R k V s := ⟨_, rfl⟩
        rw [← hcur] at HM
        have hcl : cur.length = 256 := by rw [hcur]; exact rowTo_len _ _ _ _
        by_cases hs256 : s < 256
        · have hVs := getD_at (l := V) (i := s) (by omega)
          obtain ⟨n, hn⟩ : ∃ n, n = V.getD s 0 := ⟨_, rfl⟩
          rw [← hn] at hVs
          have hnc := HN.out.getI hVs
          have hstep : rowTo R k V (s + 1) = if n = 0 then cur else putAll n cur (trans R k s) := by rw [rowTo, stepS, ← hn, ← hcur]
          have HS := Lib.hid hstep
          have hn64 := Lib.hid (show I64 n by rw [hn]; exact getD_I64 hV64.out s)
          clear hstep hVs hn hcur
          by_cases hn0 : n = 0
          · have q0 : (n == 0) = true := by rw [hn0]; rfl
            have HS2 := Lib.hid (show rowTo R k V (s + 1) = cur by rw [HS.out, if_pos hn0])
            clear hn0
            go_wp2_with fail
            go_roundw
            case rel => exact ⟨s + 1, by omega, by go_num, by rw [HS2.out]; exact HM, HC, HN, HP, HB⟩
            case measure => simp [intOf]; omega
          · have q0 : (n == 0) = false := by simpa using hn0
            have HS2 := Lib.hid (show rowTo R k V (s + 1) = putAll n cur (trans R k s) by rw [HS.out, if_neg hn0])
            clear hn0 HS
            obtain ⟨q, hq, hq128, hq1, hqw⟩ := pow_small hX8
            have hbit := i64_bit s X (by omega)
            have hCc := HC.out.c2
            have hPc := HP.out.c1
            obtain ⟨cv, hcv⟩ : ∃ cv, s.testBit X = cv := ⟨_, rfl⟩
            rw [hcv] at hbit
            cases hcov : s.testBit X
            · rw [hcov] at hcv
              replace hcv := hcv.symm
              cases hhas : R.testBit k
              · have HT := Lib.hid (trans_a HX.out.1 hhas hcov)
                obtain ⟨v, hv0⟩ : ∃ v, v = cur.getD s 0 := ⟨_, rfl⟩
                have hv := getD_at (l := cur) (i := s) (by omega)
                rw [← hv0] at hv
                obtain ⟨u, hu⟩ : ∃ u, wrap64 (v + n) = u := ⟨_, rfl⟩
                have HPut := Lib.hid (show putAll n cur (trans R k s) = cur.set s u by rw [HT.out]; exact put_one n cur s hv0 hu)
                have HH2 := Lib.hid (HH.out.trans hhas)
                clear hhas hv0
                go_wp2_with (go_at_call 101; with_reducible refine (l03Has_any A c l X Y _ (regOk_iff.1 hreg).1 (hr'.out.below HB.out) HOK.out (regOk_iff.1 hreg).2).mono ?_; rintro e w5 ⟨rfl, hb5⟩; rw [HH2.out]; replace HB := Lib.hid (bl_trans HB.out hb5); replace HP := Lib.hid (HP.out.bel (hb5)); replace HN := Lib.hid (HN.out.bel (hb5)); replace HC := Lib.hid (HC.out.bel (hb5)); replace HM := Lib.hid (HM.out.bel (hb5)); replace hCc := HC.out.c2; replace hPc := HP.out.c1; have hc5 := HM.out.getI hv; have hf5 := HM.out.frozen s; clear hb5)
                replace HB := Lib.hid (bl_set HB.out (p := ⟨z + 1, s, none⟩) (by show w.heap.size ≤ z + 1; omega) (.int .i64 u))
                replace HP := Lib.hid (HP.out.farN (z + 1) s (by omega) (.int .i64 u))
                replace HN := Lib.hid (HN.out.farN (z + 1) s (by omega) (.int .i64 u))
                replace HC := Lib.hid (HC.out.farN (z + 1) s (by omega) (.int .i64 u))
                replace HM := Lib.hid (HM.out.setI s u)
                go_roundw
                case rel => exact ⟨s + 1, by omega, by go_num, by rw [HS2.out, HPut.out]; exact HM, HC, HN, HP, HB⟩
                case measure => simp [intOf]; omega
              · have HT := Lib.hid (trans_d HX.out.1 hhas hcov)
                have HH2 := Lib.hid (HH.out.trans hhas)
                clear hhas
                obtain ⟨T8, HT8⟩ : ∃ T8, Hid (T8 = if R.testBit (k + 8) = true then [s ||| 2 ^ X] else []) := ⟨_, Lib.hid rfl⟩
                obtain ⟨T1, HT1⟩ : ∃ T1, Hid (T1 = if (decide (X < 7) && (R.testBit (k + 1) && !s.testBit (X + 1))) = true then [s ||| 2 ^ (X + 1)] else []) := ⟨_, Lib.hid rfl⟩
                replace HT := Lib.hid (show putAll n cur (trans R k s) = putAll n (putAll n cur T8) T1 by rw [HT.out, ← HT8.out, ← HT1.out, putAll_app])
                have alt8 := below_alts hreg HR.out HX.out.2 HX.out.1 hX8 hk64 hs256 HT8.out
                have alt1 := Lib.hid (right_alts hreg HR.out HX.out.2 hX8 hY8 hk64 hs256 HT1.out)
                clear HT8 HT1
                obtain ⟨bb, hbb⟩ : ∃ bb : Bool, (T8 = [] ∧ bb = false) ∨ (∃ t : Nat, bb = true ∧ t < 256 ∧ (∀ q : Nat, q = 2 ^ X → bits BinOp.or IntKind.i64 (s : Int) (q : Int) = (t : Int)) ∧ T8 = [t]) := below_bool alt8
                replace hbb := Lib.hid hbb
                replace alt8 := Lib.hid alt8
                go_upto_region 25 with (go_at_call 101; with_reducible refine (l03Has_any A c l X Y _ (regOk_iff.1 hreg).1 (hr'.out.below HB.out) HOK.out (regOk_iff.1 hreg).2).mono ?_; rintro e w5 ⟨rfl, hb5⟩; rw [HH2.out]; replace HB := Lib.hid (bl_trans HB.out hb5); replace HP := Lib.hid (HP.out.bel (hb5)); replace HN := Lib.hid (HN.out.bel (hb5)); replace HC := Lib.hid (HC.out.bel (hb5)); replace HM := Lib.hid (HM.out.bel (hb5)); replace hCc := HC.out.c2; replace hPc := HP.out.c1; clear hb5)
                have P8 := Lib.hid (HP.out.alloc (.cells #[.int .i64 (X : Int), .int .i64 ((Y : Int) + 1)] 35))
                go_cut [99] from 94 to 99 (fun s99 wx => s99 = .bool bb ∧ Hid (Blk wx (z + 1) 3 ((cur).map cI)) ∧ Hid (Blk wx z 35 [.int .i64 (X : Int), .int .i64 (Y : Int)]) ∧ Hid (Blk wx g 3 (V.map cI)) ∧ Hid (Blk wx w.heap.size 31 [.slice A l.length c]) ∧ Hid (Below w.heap.size w wx))
                case first =>
                  have hPc8 := P8.out.c1
                  rcases alt8.out with ⟨b1, b2⟩ | ⟨b1, b2, b3⟩ | ⟨b1, b2, t8, b3, b4, b6⟩
                  · have hr0 : bb = false := below_no hbb.out b2
                    subst hr0
                    go_wp2_with (go_at_call 120; with_reducible refine (CellOk_s X ((Y : Int) + 1) _).mono ?_; rintro e w6 ⟨rfl, hb6⟩; rw [b1]; have BQ := (Blk.new w5 35 [.int .i64 X, .int .i64 ((Y : Int) + 1)]).bel hb6; have BQc := BQ.c2; replace HB := Lib.hid (bl_trans (bl_trans HB.out (by go_grown)) hb6); replace HP := Lib.hid (HP.out.bel (bl_trans (by go_grown) hb6)); replace HN := Lib.hid (HN.out.bel (bl_trans (by go_grown) hb6)); replace HC := Lib.hid (HC.out.bel (bl_trans (by go_grown) hb6)); replace HM := Lib.hid (HM.out.bel (bl_trans (by go_grown) hb6)); replace hCc := HC.out.c2; replace hPc := HP.out.c1; clear hb6)
                    go_meet
                    exact ⟨rfl, HM, HC, HN, HP, HB⟩
                  · have hr0 : bb = false := below_no hbb.out b3
                    subst hr0
                    go_wp2_with (first | (go_at_call 120; with_reducible refine (CellOk_s X ((Y : Int) + 1) _).mono ?_; rintro e w6 ⟨rfl, hb6⟩; rw [b1]; have BQ := (Blk.new w5 35 [.int .i64 X, .int .i64 ((Y : Int) + 1)]).bel hb6; have BQc := BQ.c2; replace HB := Lib.hid (bl_trans (bl_trans HB.out (by go_grown)) hb6); replace HP := Lib.hid (HP.out.bel (bl_trans (by go_grown) hb6)); replace HN := Lib.hid (HN.out.bel (bl_trans (by go_grown) hb6)); replace HC := Lib.hid (HC.out.bel (bl_trans (by go_grown) hb6)); replace HM := Lib.hid (HM.out.bel (bl_trans (by go_grown) hb6)); replace hCc := HC.out.c2; replace hPc := HP.out.c1; clear hb6) | (go_at_call 101; with_reducible refine (l03Has_any A c l X ((Y : Int) + 1) _ (regOk_iff.1 hreg).1 (hr'.out.below HB.out) b1 (regOk_iff.1 hreg).2).mono ?_; rintro e w7 ⟨rfl, hb7⟩; rw [b2]; replace HB := Lib.hid (bl_trans HB.out hb7); replace HP := Lib.hid (HP.out.bel (hb7)); replace HN := Lib.hid (HN.out.bel (hb7)); replace HC := Lib.hid (HC.out.bel (hb7)); replace HM := Lib.hid (HM.out.bel (hb7)); replace hCc := HC.out.c2; replace hPc := HP.out.c1; clear hb7))
                    go_meet
                    exact ⟨rfl, HM, HC, HN, HP, HB⟩
                  · have hr0 : bb = true := below_yes hbb.out b6
                    subst hr0
                    go_wp2_with (first | (go_at_call 120; with_reducible refine (CellOk_s X ((Y : Int) + 1) _).mono ?_; rintro e w6 ⟨rfl, hb6⟩; rw [b1]; have BQ := (Blk.new w5 35 [.int .i64 X, .int .i64 ((Y : Int) + 1)]).bel hb6; have BQc := BQ.c2; replace HB := Lib.hid (bl_trans (bl_trans HB.out (by go_grown)) hb6); replace HP := Lib.hid (HP.out.bel (bl_trans (by go_grown) hb6)); replace HN := Lib.hid (HN.out.bel (bl_trans (by go_grown) hb6)); replace HC := Lib.hid (HC.out.bel (bl_trans (by go_grown) hb6)); replace HM := Lib.hid (HM.out.bel (bl_trans (by go_grown) hb6)); replace hCc := HC.out.c2; replace hPc := HP.out.c1; clear hb6) | (go_at_call 101; with_reducible refine (l03Has_any A c l X ((Y : Int) + 1) _ (regOk_iff.1 hreg).1 (hr'.out.below HB.out) b1 (regOk_iff.1 hreg).2).mono ?_; rintro e w7 ⟨rfl, hb7⟩; rw [b2]; replace HB := Lib.hid (bl_trans HB.out hb7); replace HP := Lib.hid (HP.out.bel (hb7)); replace HN := Lib.hid (HN.out.bel (hb7)); replace HC := Lib.hid (HC.out.bel (hb7)); replace HM := Lib.hid (HM.out.bel (hb7)); replace hCc := HC.out.c2; replace hPc := HP.out.c1; clear hb7))
                    go_meet
                    exact ⟨rfl, HM, HC, HN, HP, HB⟩
                case rest =>
                  clear HM HC HN HP HB hCc hPc P8
                  obtain ⟨rfl, HM, HC, HN, HP, HB⟩ := hcut
                  obtain ⟨cur8, hcur8⟩ : ∃ cur8, cur8 = putAll n cur T8 := ⟨_, rfl⟩
                  have hcl8 : cur8.length = 256 := by rw [hcur8, putAll_len]; exact hcl
                  replace HT := Lib.hid (show putAll n cur (trans R k s) = putAll n cur8 T1 by rw [HT.out, hcur8])
                  go_upto_if 99 with fail
                  go_cut [100] from 101 to 114 (fun s100 wx => Hid (Blk wx (z + 1) 3 ((cur8).map cI)) ∧ Hid (Blk wx z 35 [.int .i64 (X : Int), .int .i64 (Y : Int)]) ∧ Hid (Blk wx g 3 (V.map cI)) ∧ Hid (Blk wx w.heap.size 31 [.slice A l.length c]) ∧ Hid (Below w.heap.size w wx))
                  case first =>
                    rcases hbb.out with ⟨a2, rfl⟩ | ⟨t8, rfl, b3, b4, b6⟩
                    · have e8 : cur8 = cur := by rw [hcur8, a2, putAll]
                      subst e8
                      go_wp2_with fail
                      go_meet
                      exact ⟨HM, HC, HN, HP, HB⟩
                    · have hor8 := b4 q hq
                      clear b4
                      obtain ⟨v, hv0⟩ : ∃ v, v = cur.getD t8 0 := ⟨_, rfl⟩
                      have hv := getD_at (l := cur) (i := t8) (by omega)
                      rw [← hv0] at hv
                      obtain ⟨u, hu⟩ : ∃ u, wrap64 (v + n) = u := ⟨_, rfl⟩
                      have e8 : cur8 = cur.set t8 u := by rw [hcur8, b6]; exact put_one n cur t8 hv0 hu
                      subst e8
                      clear hv0
                      have hc7 := HM.out.getI hv
                      have hf7 := HM.out.frozen t8
                      have hw2 : IntKind.i64.wrap ((2 : Int) ^ X) = (q : Int) := by rw [wrap_i64]; exact hqw
                      have hw3 : IntKind.i64.wrap (v + n) = u := by rw [wrap_i64]; exact hu
                      have hx0 : (0 : Int) ≤ (X : Int) := by omega
                      have ht1 : (0 : Int) ≤ (t8 : Int) := by omega
                      have ht2 : (t8 : Int) < 256 := by omega
                      clear hqw hq
                      go_wp2_with fail
                      go_still_tail 15, (by kernel_rfl)
                      go_wp2_with fail
                      replace HB := Lib.hid (bl_drew HB.out)
                      replace HP := Lib.hid HP.out.drew
                      replace HN := Lib.hid HN.out.drew
                      replace HC := Lib.hid HC.out.drew
                      replace HM := Lib.hid HM.out.drew
                      replace HB := Lib.hid (bl_set HB.out (p := ⟨z + 1, t8, none⟩) (by show w.heap.size ≤ z + 1; omega) (.int .i64 u))
                      replace HP := Lib.hid (HP.out.farN (z + 1) t8 (by omega) (.int .i64 u))
                      replace HN := Lib.hid (HN.out.farN (z + 1) t8 (by omega) (.int .i64 u))
                      replace HC := Lib.hid (HC.out.farN (z + 1) t8 (by omega) (.int .i64 u))
                      replace HM := Lib.hid (HM.out.setI t8 u)
                      go_meet
                      exact ⟨HM, HC, HN, HP, HB⟩
                  case rest =>
                    clear HM HC HN HP HB
                    obtain ⟨HM, HC, HN, HP, HB⟩ := hcut
                    have hCc := HC.out.c2
                    have hPc := HP.out.c1
                    have hPcA := (HP.out.alloc (.cells #[.int .i64 ((X : Int) + 1), .int .i64 (Y : Int)] 35)).c1
                    obtain ⟨wb, hwb⟩ : ∃ wb, wb = wc := ⟨_, rfl⟩
                    rw [← hwb] at HM HC HN HP HB hCc hPc hPcA ⊢
                    clear hqw hwb hcur8 hbb alt8
                    obtain ⟨rb, hrb⟩ : ∃ rb : Bool, (T1 = [] ∧ rb = false) ∨ (∃ t : Nat, rb = true ∧ t < 256 ∧ (∀ q : Nat, q = 2 ^ (X + 1) → bits BinOp.or IntKind.i64 (s : Int) (q : Int) = (t : Int)) ∧ T1 = [t] ∧ X < 7) := right_bool alt1.out
                    replace hrb := Lib.hid hrb
                    go_upto_region 28 with fail
                    go_cut [135] from 121 to 135 (fun s135 wx => s135 = .bool rb ∧ Hid (Blk wx (z + 1) 3 ((cur8).map cI)) ∧ Hid (Blk wx z 35 [.int .i64 (X : Int), .int .i64 (Y : Int)]) ∧ Hid (Blk wx g 3 (V.map cI)) ∧ Hid (Blk wx w.heap.size 31 [.slice A l.length c]) ∧ Hid (Below w.heap.size w wx))
                    case first =>
                      rcases alt1.out with ⟨a1, a2⟩ | ⟨a1, a2, a3⟩ | ⟨a1, a2, a3, a4⟩ | ⟨a1, a2, a3, t, a4, a5, a7⟩
                      · have hr0 : rb = false := right_no hrb.out a2
                        subst hr0
                        go_wp2_with (first | (go_at_call 120; with_reducible refine (CellOk_s ((X : Int) + 1) Y _).mono ?_; rintro e w8 ⟨rfl, hb8⟩; rw [a1]; have BQ := (Blk.new wb 35 [.int .i64 ((X : Int) + 1), .int .i64 Y]).bel hb8; have BQc := BQ.c2; replace HB := Lib.hid (bl_trans (bl_trans HB.out (by go_grown)) hb8); replace HP := Lib.hid (HP.out.bel (bl_trans (by go_grown) hb8)); replace HN := Lib.hid (HN.out.bel (bl_trans (by go_grown) hb8)); replace HC := Lib.hid (HC.out.bel (bl_trans (by go_grown) hb8)); replace HM := Lib.hid (HM.out.bel (bl_trans (by go_grown) hb8)); replace hCc := HC.out.c2; replace hPc := HP.out.c1; clear hb8))
                        go_meet
                        exact ⟨rfl, HM, HC, HN, HP, HB⟩
                      · have hr0 : rb = false := right_no hrb.out a3
                        subst hr0
                        go_wp2_with (first | (go_at_call 120; with_reducible refine (CellOk_s ((X : Int) + 1) Y _).mono ?_; rintro e w8 ⟨rfl, hb8⟩; rw [a1]; have BQ := (Blk.new wb 35 [.int .i64 ((X : Int) + 1), .int .i64 Y]).bel hb8; have BQc := BQ.c2; replace HB := Lib.hid (bl_trans (bl_trans HB.out (by go_grown)) hb8); replace HP := Lib.hid (HP.out.bel (bl_trans (by go_grown) hb8)); replace HN := Lib.hid (HN.out.bel (bl_trans (by go_grown) hb8)); replace HC := Lib.hid (HC.out.bel (bl_trans (by go_grown) hb8)); replace HM := Lib.hid (HM.out.bel (bl_trans (by go_grown) hb8)); replace hCc := HC.out.c2; replace hPc := HP.out.c1; clear hb8) | (go_at_call 101; with_reducible refine (l03Has_any A c l ((X : Int) + 1) Y _ (regOk_iff.1 hreg).1 (hr'.out.below HB.out) a1 (regOk_iff.1 hreg).2).mono ?_; rintro e w9 ⟨rfl, hb9⟩; rw [a2]; replace HB := Lib.hid (bl_trans HB.out hb9); replace HP := Lib.hid (HP.out.bel (hb9)); replace HN := Lib.hid (HN.out.bel (hb9)); replace HC := Lib.hid (HC.out.bel (hb9)); replace HM := Lib.hid (HM.out.bel (hb9)); replace hCc := HC.out.c2; replace hPc := HP.out.c1; clear hb9))
                        go_meet
                        exact ⟨rfl, HM, HC, HN, HP, HB⟩
                      · have hr0 : rb = false := right_no hrb.out a4
                        subst hr0
                        have hbit1 := i64_bit0 s (X + 1) (by omega)
                        obtain ⟨cw, hcw⟩ : ∃ cw, (!s.testBit (X + 1)) = cw := ⟨_, rfl⟩
                        rw [hcw] at hbit1
                        rw [a3] at hcw
                        replace hcw : cw = false := hcw.symm
                        go_wp2_with (first | (go_at_call 120; with_reducible refine (CellOk_s ((X : Int) + 1) Y _).mono ?_; rintro e w8 ⟨rfl, hb8⟩; rw [a1]; have BQ := (Blk.new wb 35 [.int .i64 ((X : Int) + 1), .int .i64 Y]).bel hb8; have BQc := BQ.c2; replace HB := Lib.hid (bl_trans (bl_trans HB.out (by go_grown)) hb8); replace HP := Lib.hid (HP.out.bel (bl_trans (by go_grown) hb8)); replace HN := Lib.hid (HN.out.bel (bl_trans (by go_grown) hb8)); replace HC := Lib.hid (HC.out.bel (bl_trans (by go_grown) hb8)); replace HM := Lib.hid (HM.out.bel (bl_trans (by go_grown) hb8)); replace hCc := HC.out.c2; replace hPc := HP.out.c1; clear hb8) | (go_at_call 101; with_reducible refine (l03Has_any A c l ((X : Int) + 1) Y _ (regOk_iff.1 hreg).1 (hr'.out.below HB.out) a1 (regOk_iff.1 hreg).2).mono ?_; rintro e w9 ⟨rfl, hb9⟩; rw [a2]; replace HB := Lib.hid (bl_trans HB.out hb9); replace HP := Lib.hid (HP.out.bel (hb9)); replace HN := Lib.hid (HN.out.bel (hb9)); replace HC := Lib.hid (HC.out.bel (hb9)); replace HM := Lib.hid (HM.out.bel (hb9)); replace hCc := HC.out.c2; replace hPc := HP.out.c1; clear hb9))
                        go_meet
                        exact ⟨rfl, HM, HC, HN, HP, HB⟩
                      · have hr0 : rb = true := right_yes hrb.out a7
                        subst hr0
                        have hbit1 := i64_bit0 s (X + 1) (by omega)
                        obtain ⟨cw, hcw⟩ : ∃ cw, (!s.testBit (X + 1)) = cw := ⟨_, rfl⟩
                        rw [hcw] at hbit1
                        rw [a3] at hcw
                        replace hcw : cw = true := hcw.symm
                        go_wp2_with (first | (go_at_call 120; with_reducible refine (CellOk_s ((X : Int) + 1) Y _).mono ?_; rintro e w8 ⟨rfl, hb8⟩; rw [a1]; have BQ := (Blk.new wb 35 [.int .i64 ((X : Int) + 1), .int .i64 Y]).bel hb8; have BQc := BQ.c2; replace HB := Lib.hid (bl_trans (bl_trans HB.out (by go_grown)) hb8); replace HP := Lib.hid (HP.out.bel (bl_trans (by go_grown) hb8)); replace HN := Lib.hid (HN.out.bel (bl_trans (by go_grown) hb8)); replace HC := Lib.hid (HC.out.bel (bl_trans (by go_grown) hb8)); replace HM := Lib.hid (HM.out.bel (bl_trans (by go_grown) hb8)); replace hCc := HC.out.c2; replace hPc := HP.out.c1; clear hb8) | (go_at_call 101; with_reducible refine (l03Has_any A c l ((X : Int) + 1) Y _ (regOk_iff.1 hreg).1 (hr'.out.below HB.out) a1 (regOk_iff.1 hreg).2).mono ?_; rintro e w9 ⟨rfl, hb9⟩; rw [a2]; replace HB := Lib.hid (bl_trans HB.out hb9); replace HP := Lib.hid (HP.out.bel (hb9)); replace HN := Lib.hid (HN.out.bel (hb9)); replace HC := Lib.hid (HC.out.bel (hb9)); replace HM := Lib.hid (HM.out.bel (hb9)); replace hCc := HC.out.c2; replace hPc := HP.out.c1; clear hb9))
                        go_meet
                        exact ⟨rfl, HM, HC, HN, HP, HB⟩
                    case rest =>
                      clear HM HC HN HP HB hCc hPc
                      obtain ⟨rfl, HM, HC, HN, HP, HB⟩ := hcut
                      rcases hrb.out with ⟨a2, rfl⟩ | ⟨t, rfl, a4, a5, a7, a8⟩
                      · go_wp2_with fail
                        go_roundw
                        case rel => exact ⟨s + 1, by omega, by go_num, by rw [HS2.out, HT.out, a2]; exact HM, HC, HN, HP, HB⟩
                        case measure => simp [intOf]; omega
                      · obtain ⟨q1, hq1e, hq1b, _, hq1w⟩ := pow_small (X := X + 1) (by omega)
                        have hor1 := a5 q1 hq1e
                        obtain ⟨v1, hv10⟩ : ∃ v1, v1 = cur8.getD t 0 := ⟨_, rfl⟩
                        have hv1 := getD_at (l := cur8) (i := t) (by omega)
                        rw [← hv10] at hv1
                        obtain ⟨u1, hu1⟩ : ∃ u1, wrap64 (v1 + n) = u1 := ⟨_, rfl⟩
                        have HPut := Lib.hid (show putAll n cur8 T1 = cur8.set t u1 by rw [a7]; exact put_one n cur8 t hv10 hu1)
                        have hc9 := HM.out.getI hv1
                        have hf9 := HM.out.frozen t
                        clear hv10 a7 a5 hq1e
                        have hw1 : IntKind.i64.wrap ((X : Int) + 1) = (X : Int) + 1 := IntWalk.i64_in _ (by omega)
                        have hw2 : IntKind.i64.wrap ((2 : Int) ^ (X + 1)) = (q1 : Int) := by rw [wrap_i64]; exact hq1w
                        have hw3 : IntKind.i64.wrap (v1 + n) = u1 := by rw [wrap_i64]; exact hu1
                        have hx0 : (0 : Int) ≤ (X : Int) + 1 := by omega
                        have ht1 : (0 : Int) ≤ (t : Int) := by omega
                        have ht2 : (t : Int) < 256 := by omega
                        go_wp2_with fail
                        go_still_tail 17, (by kernel_rfl)
                        go_wp2_with fail
                        replace HB := Lib.hid (bl_drew HB.out)
                        replace HB := Lib.hid (bl_set HB.out (p := ⟨z + 1, t, none⟩) (by show w.heap.size ≤ z + 1; omega) (.int .i64 u1))
                        replace HP := Lib.hid (HP.out.farN (z + 1) t (by omega) (.int .i64 u1))
                        replace HN := Lib.hid (HN.out.farN (z + 1) t (by omega) (.int .i64 u1))
                        replace HC := Lib.hid (HC.out.farN (z + 1) t (by omega) (.int .i64 u1))
                        replace HM := Lib.hid (HM.out.setI t u1)
                        go_roundw
                        case rel => exact ⟨s + 1, by omega, by go_num, by rw [HS2.out, HT.out, HPut.out]; exact HM, HC, HN, HP, HB⟩
                        case measure => simp [intOf]; omega
            · rw [hcov] at hcv
              replace hcv := hcv.symm
              obtain ⟨s2, hs2, hs2e, hsub⟩ := sub_pow hcov hq
              have hp2 : (2 : Int) ^ X = (q : Int) := by rw [hq]; simp
              rw [hp2] at hbit
              clear hqw
              cases hhas : R.testBit k
              · have HT := Lib.hid (show putAll n cur (trans R k s) = cur by rw [trans_b HX.out.1 hhas hcov, putAll])
                clear hs2e hq
                have HH2 := Lib.hid (HH.out.trans hhas)
                clear hhas
                go_wp2_with (go_at_call 101; with_reducible refine (l03Has_any A c l X Y _ (regOk_iff.1 hreg).1 (hr'.out.below HB.out) HOK.out (regOk_iff.1 hreg).2).mono ?_; rintro e w5 ⟨rfl, hb5⟩; rw [HH2.out]; replace HB := Lib.hid (bl_trans HB.out hb5); replace HP := Lib.hid (HP.out.bel (hb5)); replace HN := Lib.hid (HN.out.bel (hb5)); replace HC := Lib.hid (HC.out.bel (hb5)); replace HM := Lib.hid (HM.out.bel (hb5)); replace hCc := HC.out.c2; replace hPc := HP.out.c1; clear hb5)
                go_roundw
                case rel => exact ⟨s + 1, by omega, by go_num, by rw [HS2.out, HT.out]; exact HM, HC, HN, HP, HB⟩
                case measure => simp [intOf]; omega
              · have HT := Lib.hid (show trans R k s = [s2] by rw [trans_c HX.out.1 hhas hcov, ← hs2e])
                clear hs2e hq
                obtain ⟨v, hv0⟩ : ∃ v, v = cur.getD s2 0 := ⟨_, rfl⟩
                have hv := getD_at (l := cur) (i := s2) (by rw [hcl]; exact Nat.lt_of_le_of_lt hs2 hs256)
                rw [← hv0] at hv
                obtain ⟨u, hu⟩ : ∃ u, wrap64 (v + n) = u := ⟨_, rfl⟩
                have HPut := Lib.hid (show putAll n cur (trans R k s) = cur.set s2 u by rw [HT.out]; exact put_one n cur s2 hv0 hu)
                have HH2 := Lib.hid (HH.out.trans hhas)
                clear hhas hv0
                go_upto_region 19 with fail; have s2a : s2 < 256 := Nat.lt_of_le_of_lt hs2 hs256; clear hbit hcv hsub hp2 hs2 hq128 hq1
                go_wp2_with (go_at_call 101; with_reducible refine (l03Has_any A c l X Y _ (regOk_iff.1 hreg).1 (hr'.out.below HB.out) HOK.out (regOk_iff.1 hreg).2).mono ?_; rintro e w5 ⟨rfl, hb5⟩; rw [HH2.out]; replace HB := Lib.hid (bl_trans HB.out hb5); replace HP := Lib.hid (HP.out.bel (hb5)); replace HN := Lib.hid (HN.out.bel (hb5)); replace HC := Lib.hid (HC.out.bel (hb5)); replace HM := Lib.hid (HM.out.bel (hb5)); replace hCc := HC.out.c2; replace hPc := HP.out.c1; have hc5 := HM.out.getI hv; have hf5 := HM.out.frozen s2; clear hb5)
                replace HB := Lib.hid (bl_set HB.out (p := ⟨z + 1, s2, none⟩) (by show w.heap.size ≤ z + 1; omega) (.int .i64 u))
                replace HP := Lib.hid (HP.out.farN (z + 1) s2 (by omega) (.int .i64 u))
                replace HN := Lib.hid (HN.out.farN (z + 1) s2 (by omega) (.int .i64 u))
                replace HC := Lib.hid (HC.out.farN (z + 1) s2 (by omega) (.int .i64 u))
                replace HM := Lib.hid (HM.out.setI s2 u)
                go_roundw
                case rel => exact ⟨s + 1, by omega, by go_num, by rw [HS2.out, HPut.out]; exact HM, HC, HN, HP, HB⟩
                case measure => simp [intOf]; omega
        · obtain rfl : s = 256 := by omega
          have HV2 := Lib.hid (show dpL R (k + 1) = cur by rw [hcur, HV.out, dpL])
          clear hcur
          go_wp2_with fail
          go_roundw
          case rel => exact ⟨k + 1, z + 1, by omega, by go_num, rfl, by omega, by rw [HV2.out]; exact HM, HP, HB⟩
          case measure => simp [intOf]; omega
    · obtain ⟨D, hD⟩ : ∃ D, D = dpL R k := ⟨_, rfl⟩
      rw [← hD] at HN
      have hDl : D.length = 256 := by rw [hD]; exact dpL_len R k
      have hDc : countD R = D.getD 0 0 := by rw [hD, countD_at (show k = 64 by omega)]
      have hq64 : decide ((k : Int) < 64) = false := decide_eq_false (by omega)
      clear hD
      have hc0 := HN.out.getI (getD_at (l := D) (i := 0) (by omega))
      obtain ⟨v, hv⟩ : ∃ v, v = D.getD 0 0 := ⟨_, rfl⟩
      rw [← hv] at hc0 hDc
      have HV := Lib.hid (show countD (regSet l) = v by rw [← hR]; exact hDc)
      clear hv hR hDc hDl
      go_wp2_with fail
      go_ret
      exact ⟨ret_int HV.out.symm, HB.out⟩
def cntT (l : List Int) : Int := if regOk l then covs (tilesL 2) 64 (regSet l) else 0
theorem cntT_yes {l : List Int} (h : regOk l = true) : cntT l = countD (regSet l) := by rw [cntT, if_pos h, countD_eq (regSet_lt h)]
theorem l07Count_eq (A : Option Addr) (c : Nat) (l : List Int) (w : World) (hreg : regOk l = true) (hr : RdI w A l) (v : Int) (hv : cntT l = v) :
    Calls Try.prog 129 #[.agg #[.slice A l.length c]] w fun e w' => e = .returned (.int .i64 v) ∧ Below w.heap.size w w' := by
  rw [cntT_yes hreg] at hv
  subst hv
  exact l07Count_any A c l w hreg hr
theorem CountTilings_s (A : Option Addr) (c : Nat) (l : List Int) (w : World) (hl : l.length ≤ 1048576) (hr : RdI w A l) :
    Calls Try.prog 77 #[.agg #[.slice A l.length c]] w fun e w' => e = .returned (.int .i64 (cntT l)) ∧ Below w.heap.size w w' := by
  (have hB := Below.refl w.heap.size w; have P := Blk.new w 31 [.slice A l.length c]; have Pc := P.c1)
  have hr' := Lib.hid hr
  clear hr
  cases h : regOk l
  · have H := Lib.hid (show cntT l = 0 by rw [cntT, h]; rfl)
    go_enter Try.func77, Try.ntmps77
    go_wp2_with (go_at_call 94; refine (RegionOk_s A c l _ hl (hr'.out.below (bl_trans hB (by go_grown)))).mono ?_; rintro e wn ⟨rfl, hbn⟩; have hSz := bl_sz (bl_trans hB (by go_grown)) hbn; replace hB := bl_trans (bl_trans hB (by go_grown)) hbn; replace P := P.bel (bl_trans (by go_grown) hbn); replace Pc := P.c1; clear hbn)
    go_ret
    exact ⟨ret_int H.out.symm, hB⟩
  · obtain ⟨v, hv⟩ : ∃ v, cntT l = v := ⟨_, rfl⟩
    have H := Lib.hid hv
    have HK := Lib.hid h
    clear hv
    go_enter Try.func77, Try.ntmps77
    go_wp2_with (first | (go_at_call 94; refine (RegionOk_s A c l _ hl (hr'.out.below (bl_trans hB (by go_grown)))).mono ?_; rintro e wn ⟨rfl, hbn⟩; have hSz := bl_sz (bl_trans hB (by go_grown)) hbn; replace hB := bl_trans (bl_trans hB (by go_grown)) hbn; replace P := P.bel (bl_trans (by go_grown) hbn); replace Pc := P.c1; clear hbn) | (go_at_call 129; refine (l07Count_eq A c l _ HK.out (hr'.out.below (bl_trans hB (by go_grown))) v H.out).mono ?_; rintro e wn ⟨rfl, hbn⟩; have hSz := bl_sz (bl_trans hB (by go_grown)) hbn; replace hB := bl_trans (bl_trans hB (by go_grown)) hbn; replace P := P.bel (bl_trans (by go_grown) hbn); replace Pc := P.c1; clear hbn))
    go_ret
    exact ⟨ret_int H.out.symm, hB⟩
theorem RectangleCount_s (x y : Int) (w : World) (hx : inB x 1 8 = true) (hy : inB y 1 8 = true) (v : Int) (hv : cntT (rectR x y) = v) :
    Calls Try.prog 49 #[.int .i64 x, .int .i64 y] w fun e w' => e = .returned (.int .i64 v) ∧ Below w.heap.size w w' := by
  have hB := Below.refl w.heap.size w
  obtain ⟨L, K9⟩ : ∃ L : List Int, Hid (cntT L = v ∧ regOk L = true ∧ ∀ w, Calls Try.prog 130 #[.int .i64 x, .int .i64 y] w fun e w' => ∃ A c, e = .returned (.agg #[.slice A L.length c]) ∧ OwI w.heap.size w' (.slice A L.length c) L ∧ Below w.heap.size w w') := ⟨rectR x y, Lib.hid ⟨hv, rectR_ok x y, fun w => Rectangle_s x y w⟩⟩
  go_enter Try.func49, Try.ntmps49
  go_wp2_with (first | (go_at_call 128; refine (l01In_any _ _ _ _).mono ?_; rintro e wn ⟨rfl, rfl⟩) | (go_at_call 130; refine (K9.out.2.2 _).mono ?_; rintro e w1 ⟨A, c, rfl, o1, hb1⟩; have R1 := Lib.hid o1.rd; replace hB := bl_trans hB hb1; clear o1 hb1) | (go_at_call 129; refine (l07Count_eq A c L _ K9.out.2.1 R1.out v K9.out.1).mono ?_; rintro e w2 ⟨rfl, hb2⟩; replace hB := bl_trans hB hb2; clear hb2))
  go_ret
  exact ⟨rfl, hB⟩
end Go.Proofs.Ytdcjhfmkkcakhaa

/-
  Contracts of TileMissing (both), of missing and l27Square, and of the laws' comparison of corners: what each returns, as a function of its arguments; nothing that was there is written; squares of side 1 to 8.
-/
import Derived.Test.YtdcjhfmkkcakhaaCorner
import Derived.Test.YtdcjhfmkkcakhaaApp
import Derived.Deep.DeepMust
import Derived.IntWalk
namespace Go.Proofs.Ytdcjhfmkkcakhaa
open Go.ChangeShapes Go.WideShapes Go.ChangeAt Go.RowKit Go.Deep
set_option linter.unusedVariables false

theorem OwT.bel {B : Nat} {w w' : World} {v : Value} {l : List (Int × Int × Int)} (h : OwT B w v l) (hb : Below w.heap.size w w') : OwT B w' v l := ⟨h.1, ownsRow_bel h.2.1 hb, h.2.2⟩
theorem OwT.nil_ (B : Nat) (w : World) : OwT B w (.slice none 0 0) [] := ⟨⟨_, _, rfl⟩, World.ownsRow_nil _ _ _ _, by simp⟩
theorem OwT.new_ {B : Nat} {w : World} (hB : B ≤ w.heap.size) : OwT B (w.alloc (.cells #[] 68)) (.slice (some ⟨w.heap.size, 0, none⟩) 0 0) [] := ⟨⟨_, _, rfl⟩, World.ownsRow_made w #[] 0 hB (by simp [maxLen]) (by simp), by simp⟩
theorem OwT.mono {B B' : Nat} {w : World} {v : Value} {l : List (Int × Int × Int)} (h : OwT B w v l) (hB : B' ≤ B) : OwT B' w v l := ⟨h.1, ownsRow_mono h.2.1 hB, h.2.2⟩
theorem OwT.one_ {B : Nat} {w : World} {x y z : Int} (hB : B ≤ w.heap.size) (gx : I64 x) (gy : I64 y) (gz : I64 z) : OwT B (w.alloc (.cells #[.int .i64 x, .int .i64 y, .int .i64 z] 68)) (.slice (some ⟨w.heap.size, 0, none⟩) 1 1) [(x, y, z)] :=
  ⟨⟨_, _, rfl⟩, (Blk.new w 68 [.int .i64 x, .int .i64 y, .int .i64 z]).own hB rfl (by decide), by intro d hd; simp at hd; subst hd; exact ⟨gx, gy, gz⟩⟩
theorem wpList_atTH {wr : World} {ops : Array Oper} {rest : List Oper} {o : Oper} {a : Act} {Q : Exit → Act → World → Prop} (hgd : o.guard = none) (s x : Operand) (ho : o.op = .call { callee := .builtin .append, args := #[s, x], argTypes := #[61, 61] })
    (H : Nat) (hH : wr.heap.size = H) (B : Nat) (v : Value) (l : List (Int × Int × Int)) (c d e : Int) (hs : a.eval s = v) (hx : a.eval x = .slice (some ⟨H, 0, none⟩) 1 1) (hown : OwT B wr v l) (hB : B ≤ wr.heap.size) (hn : l.length ≤ 1048576) (hc : I64 c) (hd : I64 d) (he : I64 e)
    (h : ∀ v' w1, OwT B w1 v' (l ++ [(c, d, e)]) → (∀ w, Below B w wr → Below B w w1) → wr.grownBy w1 v.ownBlock → (v'.ownBlock = v.ownBlock ∨ v'.ownBlock = some (wr.heap.size + 1)) → wr.heap.size + 1 ≤ w1.heap.size → wpList Try.prog ops Q rest (a.put o.dst v') w1) :
    wpList Try.prog ops Q (o :: rest) a (wr.alloc (.cells #[.int .i64 c, .int .i64 d, .int .i64 e] 68)) := by
  subst hH
  exact wpList_atT hgd s x ho B v l c d e hs hx hown hB hn hc hd he h
theorem wpList_apsT {w : World} {ops : Array Oper} {rest : List Oper} {o : Oper} {a : Act} {Q : Exit → Act → World → Prop} (hgd : o.guard = none) (s x : Operand) (ho : o.op = .call { callee := .builtin .append, args := #[s, x], argTypes := #[61, 61] })
    (B B1 : Nat) (v : Value) (l m : List (Int × Int × Int)) (A : Option Addr) (n c : Nat) (hs : a.eval s = v) (hx : a.eval x = .slice A n c) (hown : OwT B w v l) (hr : OwT B1 w (.slice A n c) m) (hB : B ≤ w.heap.size) (hn : l.length ≤ 1048576) (hm : m.length ≤ 1048576)
    (h : ∀ A' L c' w1, Hid (L = (l ++ m).length) → OwT B w1 (.slice A' L c') (l ++ m) → (∀ w0, Below B w0 w → Below B w0 w1) → w.grownBy w1 v.ownBlock → wpList Try.prog ops Q rest (a.put o.dst (.slice A' L c')) w1) :
    wpList Try.prog ops Q (o :: rest) a w := by
  obtain rfl : n = m.length := by obtain ⟨⟨A', c', e⟩, _⟩ := hr; injection e
  obtain ⟨_, o1, o2⟩ := hown
  refine wpList_append_src (P := Try.prog) hgd s x 61 ho B 68 (.agg #[.int .i64 0, .int .i64 0, .int .i64 0]) 3 24 Try.underlying61 (by kernel_rfl) rfl (by decide) (by decide) v l.length (l.flatMap cT) hs o1 A m.length c (m.flatMap cT) hx hr.rd.1 (by intro u hu; obtain ⟨x, _, hx⟩ := List.mem_flatMap.1 hu; simp [cT] at hx; rcases hx with rfl | rfl | rfl <;> rfl) hn hm hB (fun v' w1 g1 g2 g3 => ?_)
  obtain ⟨A', c', rfl⟩ := own_form g1
  rw [← List.length_append] at g1 ⊢
  exact h A' _ c' w1 (Lib.hid rfl) ⟨⟨_, _, rfl⟩, by simpa using g1, fun y hy => (List.mem_append.1 hy).elim (o2 y) (hr.2.2 y)⟩ (fun w0 hb => hb.grown g2 hB (fun k hk => (o1.lt k hk).1)) g2
def two : Nat → Int
  | 0 => 1
  | f + 1 => 2 * two f
theorem two_succ (f : Nat) : two (f + 1) = 2 * two f := rfl
theorem two_rng {f : Nat} (h : f ≤ 2) : 1 ≤ two f ∧ two f ≤ 4 := by
  have : f = 0 ∨ f = 1 ∨ f = 2 := by omega
  rcases this with rfl | rfl | rfl <;> decide
def tileQ (x y h hx hy : Int) : Int := (if x + h ≤ hx then 1 else 0) + (if y + h ≤ hy then 2 else 0)
def holeAt (x y h hx hy k : Int) : Int × Int := if k = tileQ x y h hx hy then (hx, hy) else (x + h - 1 + k % 2, y + h - 1 + k / 2)
def miss : Nat → Int → Int → Int → Int → List (Int × Int × Int)
  | 0, _, _, _, _ => []
  | f + 1, x, y, hx, hy => (x + two f - 1, y + two f - 1, tileQ x y (two f) hx hy) :: (List.range 4).flatMap fun (k : Nat) =>
      miss f (x + (k : Int) % 2 * two f) (y + (k : Int) / 2 * two f) (holeAt x y (two f) hx hy k).1 (holeAt x y (two f) hx hy k).2
def missTo (f : Nat) (x y hx hy : Int) (k : Nat) : List (Int × Int × Int) := (x + two f - 1, y + two f - 1, tileQ x y (two f) hx hy) :: (List.range k).flatMap fun (k : Nat) =>
      miss f (x + (k : Int) % 2 * two f) (y + (k : Int) / 2 * two f) (holeAt x y (two f) hx hy k).1 (holeAt x y (two f) hx hy k).2
theorem miss_succ (f : Nat) (x y hx hy : Int) : miss (f + 1) x y hx hy = missTo f x y hx hy 4 := rfl
theorem missTo_step (f : Nat) (x y hx hy : Int) (k : Nat) (X Y HX HY : Int) (h1 : X = x + (k : Int) % 2 * two f) (h2 : Y = y + (k : Int) / 2 * two f) (h3 : HX = (holeAt x y (two f) hx hy k).1) (h4 : HY = (holeAt x y (two f) hx hy k).2) :
    missTo f x y hx hy (k + 1) = missTo f x y hx hy k ++ miss f X Y HX HY := by
  subst h1; subst h2; subst h3; subst h4
  simp only [missTo, List.range_succ, List.flatMap_append, List.flatMap_cons, List.flatMap_nil, List.append_nil, List.cons_append]
theorem miss_len (f : Nat) : ∀ x y hx hy : Int, (miss f x y hx hy).length + 1 ≤ 4 ^ f := by
  induction f with
  | zero => intro x y hx hy; simp [miss]
  | succ f ih =>
    intro x y hx hy
    have e : List.range 4 = [0, 1, 2, 3] := rfl
    simp only [miss, e, List.flatMap_cons, List.flatMap_nil, List.length_cons, List.length_append, List.length_nil, Nat.pow_succ]
    have a0 := ih (x + ((0 : Nat) : Int) % 2 * two f) (y + ((0 : Nat) : Int) / 2 * two f) (holeAt x y (two f) hx hy ((0 : Nat) : Int)).1 (holeAt x y (two f) hx hy ((0 : Nat) : Int)).2
    have a1 := ih (x + ((1 : Nat) : Int) % 2 * two f) (y + ((1 : Nat) : Int) / 2 * two f) (holeAt x y (two f) hx hy ((1 : Nat) : Int)).1 (holeAt x y (two f) hx hy ((1 : Nat) : Int)).2
    have a2 := ih (x + ((2 : Nat) : Int) % 2 * two f) (y + ((2 : Nat) : Int) / 2 * two f) (holeAt x y (two f) hx hy ((2 : Nat) : Int)).1 (holeAt x y (two f) hx hy ((2 : Nat) : Int)).2
    have a3 := ih (x + ((3 : Nat) : Int) % 2 * two f) (y + ((3 : Nat) : Int) / 2 * two f) (holeAt x y (two f) hx hy ((3 : Nat) : Int)).1 (holeAt x y (two f) hx hy ((3 : Nat) : Int)).2
    omega
theorem miss_small {f : Nat} (h : f ≤ 3) {x y hx hy : Int} : (miss f x y hx hy).length ≤ 1048576 := by
  have := miss_len f x y hx hy
  have h2 : 4 ^ f ≤ 64 := Nat.le_trans (Nat.pow_le_pow_right (by decide) h) (by decide)
  omega
theorem missTo_le (f : Nat) (x y hx hy : Int) (n : Nat) : (missTo f x y hx hy n).length ≤ n * 4 ^ f + 1 := by
  induction n with
  | zero => simp [missTo]
  | succ n ih =>
    rw [missTo_step f x y hx hy n _ _ _ _ rfl rfl rfl rfl, List.length_append, Nat.succ_mul]
    have := miss_len f (x + (n : Int) % 2 * two f) (y + (n : Int) / 2 * two f) (holeAt x y (two f) hx hy n).1 (holeAt x y (two f) hx hy n).2
    omega
set_option maxRecDepth 100000 in
set_option maxHeartbeats 8000000 in
theorem missing_i : ∀ (f : Nat) (x y S hx hy : Int) (w : World), S = two f → f ≤ 3 → 0 ≤ x → x + S ≤ 8 → 0 ≤ y → y + S ≤ 8 → 0 ≤ hx → hx ≤ 8 → 0 ≤ hy → hy ≤ 8 →
    Calls Try.prog 118 #[.int .i64 x, .int .i64 y, .int .i64 S, .agg #[.int .i64 hx, .int .i64 hy]] w fun e w' => ∃ v, e = .returned v ∧ OwT w.heap.size w' v (miss f x y hx hy) ∧ Below w.heap.size w w' := by
  intro f
  induction f with
  | zero =>
    intro x y S hx hy w hS _ _ _ _ _ _ _ _ _
    obtain rfl : S = 1 := hS
    have ow := Lib.hid (OwT.new_ (B := w.heap.size) (w := w.alloc (.cells #[.int .i64 hx, .int .i64 hy] 35)) (by simp))
    go_enter Try.func118, Try.ntmps118
    go_wp2_with fail
    go_ret
    exact ⟨_, rfl, by have := ow.out; rw [World.size_alloc] at this; exact this, by go_grown⟩
  | succ f ih =>
    intro x y S hx hy w hS hf h1 h2 h3 h4 h5 h6 h7 h8
    obtain ⟨H, hH⟩ : ∃ H, H = two f := ⟨_, rfl⟩
    have hHb := two_rng (f := f) (by omega)
    rw [← hH] at hHb
    obtain rfl : S = 2 * H := by rw [hS, hH]; exact two_succ f
    have HH := Lib.hid hH
    have Ih := Lib.hid ih
    have e0 : ((2 * H : Int) == 1) = false := by simp; omega
    have P := Blk.new w 35 [.int .i64 hx, .int .i64 hy]
    have Pc := P.c2
    have HP := Lib.hid P
    clear hS hH ih P
    by_cases c1 : x + H ≤ hx
    · by_cases c2 : y + H ≤ hy
      · have HQ := Lib.hid (show tileQ x y H hx hy = 3 by unfold tileQ; rw [if_pos c1, if_pos c2]; rfl)
        have E1 := Lib.hid (OwT.one_ (B := w.heap.size + 1) (w := w.alloc (.cells #[.int .i64 hx, .int .i64 hy] 35)) (x := x + H - 1) (y := y + H - 1) (z := 3) (by simp) ⟨by omega, by omega⟩ ⟨by omega, by omega⟩ ⟨by omega, by omega⟩)
        go_enter Try.func118, Try.ntmps118
        go_wp2_with fail
        go_loopw [11, 46] (fun v k wr => ∃ n : Nat, n ≤ 4 ∧ k = .int .i64 n ∧ OwT (w.heap.size + 1) wr v (missTo f x y hx hy n) ∧ Below w.heap.size w wr ∧ Blk wr w.heap.size 35 [.int .i64 hx, .int .i64 hy]) (fun _ k _ => 4 - (intOf k).toNat)
        case atStart => exact ⟨0, by omega, rfl, by have := E1.out; rw [World.size_alloc] at this; simpa [missTo, ← HH.out, HQ.out] using this, by go_grown, HP.out.alloc _⟩
        case round =>
          obtain ⟨n, hn, rfl, own, hB, P⟩ := hrel
          clear HP E1
          by_cases hlt : n < 4
          · have hml := miss_len f
            have h4f : 4 ^ f ≤ 64 := Nat.le_trans (Nat.pow_le_pow_right (by decide) (show f ≤ 3 by omega)) (by decide)
            have htl : (missTo f x y hx hy n).length ≤ 1048576 := by
              have h9 := missTo_le f x y hx hy n
              have : n * 64 ≤ 4 * 64 := Nat.mul_le_mul_right _ (by omega)
              have h10 : n * 4 ^ f ≤ n * 64 := Nat.mul_le_mul_left _ h4f
              omega
            have Hml := Lib.hid hml
            have H4f := Lib.hid h4f
            have Ho := Lib.hid own
            have HPb := Lib.hid P
            have HB := Lib.hid hB
            have hsz := hB.size
            have hpl := P.lt
            have Pc := P.c2
            clear hml h4f own P hB
            rcases (show n = 0 ∨ n = 1 ∨ n = 2 ∨ n = 3 by omega) with rfl | rfl | rfl | rfl
            · go_wp2_with (first | (go_at_call 118; go_must (refine (Ih.out _ _ _ _ _ _ HH.out (by omega) (by omega) (by omega) (by omega) (by omega) (by omega) (by omega) (by omega) (by omega)).mono ?_; rintro e w1 ⟨v1, rfl, o1, hb1⟩; have hbb := bl_trans (w := wr) (by go_grown) hb1; obtain ⟨⟨A1, c1, rfl⟩, _⟩ := id o1; have O1 := Lib.hid o1; have HB1 := Lib.hid hbb; have Ho1 := Lib.hid (Ho.out.bel hbb); have HP1 := Lib.hid (HPb.out.bel hbb); have hz := hbb.size; clear o1 hb1 hbb)) | (at_builtin; go_must (refine wpList_apsT rfl (.tmp 68) (.tmp 83) rfl (w.heap.size + 1) _ _ _ _ _ _ _ rfl rfl Ho1.out O1.out (by omega) htl (miss_small (by omega)) ?_; intro A3 L3 c3 w3 hL3 o3 b3 g3; have HO3 := Lib.hid o3; have hbw := b3 _ (Below.refl _ _); have HP3 := Lib.hid (HP1.out.below hbw (Nat.lt_succ_self _)); have HB3 := Lib.hid ((bl_trans HB.out HB1.out).trans (hbw.mono (Nat.le_succ _))); clear o3 b3 g3 hbw)))
              go_roundw
              case rel => exact ⟨1, by omega, by go_num, (by have := HO3.out; rw [← missTo_step f x y hx hy 0] at this; exact this; all_goals (first | (rw [← HH.out]; simp; done) | (rw [← HH.out]; simp; omega) | (rw [← HH.out, holeAt, HQ.out]; simp; done) | (rw [← HH.out, holeAt, HQ.out]; simp; omega))), HB3.out, HP3.out⟩
              case measure => simp [intOf]
            · go_wp2_with (first | (go_at_call 118; go_must (refine (Ih.out _ _ _ _ _ _ HH.out (by omega) (by omega) (by omega) (by omega) (by omega) (by omega) (by omega) (by omega) (by omega)).mono ?_; rintro e w1 ⟨v1, rfl, o1, hb1⟩; have hbb := bl_trans (w := wr) (by go_grown) hb1; obtain ⟨⟨A1, c1, rfl⟩, _⟩ := id o1; have O1 := Lib.hid o1; have HB1 := Lib.hid hbb; have Ho1 := Lib.hid (Ho.out.bel hbb); have HP1 := Lib.hid (HPb.out.bel hbb); have hz := hbb.size; clear o1 hb1 hbb)) | (at_builtin; go_must (refine wpList_apsT rfl (.tmp 68) (.tmp 83) rfl (w.heap.size + 1) _ _ _ _ _ _ _ rfl rfl Ho1.out O1.out (by omega) htl (miss_small (by omega)) ?_; intro A3 L3 c3 w3 hL3 o3 b3 g3; have HO3 := Lib.hid o3; have hbw := b3 _ (Below.refl _ _); have HP3 := Lib.hid (HP1.out.below hbw (Nat.lt_succ_self _)); have HB3 := Lib.hid ((bl_trans HB.out HB1.out).trans (hbw.mono (Nat.le_succ _))); clear o3 b3 g3 hbw)))
              go_roundw
              case rel => exact ⟨2, by omega, by go_num, (by have := HO3.out; rw [← missTo_step f x y hx hy 1] at this; exact this; all_goals (first | (rw [← HH.out]; simp; done) | (rw [← HH.out]; simp; omega) | (rw [← HH.out, holeAt, HQ.out]; simp; done) | (rw [← HH.out, holeAt, HQ.out]; simp; omega))), HB3.out, HP3.out⟩
              case measure => simp [intOf]
            · go_wp2_with (first | (go_at_call 118; go_must (refine (Ih.out _ _ _ _ _ _ HH.out (by omega) (by omega) (by omega) (by omega) (by omega) (by omega) (by omega) (by omega) (by omega)).mono ?_; rintro e w1 ⟨v1, rfl, o1, hb1⟩; have hbb := bl_trans (w := wr) (by go_grown) hb1; obtain ⟨⟨A1, c1, rfl⟩, _⟩ := id o1; have O1 := Lib.hid o1; have HB1 := Lib.hid hbb; have Ho1 := Lib.hid (Ho.out.bel hbb); have HP1 := Lib.hid (HPb.out.bel hbb); have hz := hbb.size; clear o1 hb1 hbb)) | (at_builtin; go_must (refine wpList_apsT rfl (.tmp 68) (.tmp 83) rfl (w.heap.size + 1) _ _ _ _ _ _ _ rfl rfl Ho1.out O1.out (by omega) htl (miss_small (by omega)) ?_; intro A3 L3 c3 w3 hL3 o3 b3 g3; have HO3 := Lib.hid o3; have hbw := b3 _ (Below.refl _ _); have HP3 := Lib.hid (HP1.out.below hbw (Nat.lt_succ_self _)); have HB3 := Lib.hid ((bl_trans HB.out HB1.out).trans (hbw.mono (Nat.le_succ _))); clear o3 b3 g3 hbw)))
              go_roundw
              case rel => exact ⟨3, by omega, by go_num, (by have := HO3.out; rw [← missTo_step f x y hx hy 2] at this; exact this; all_goals (first | (rw [← HH.out]; simp; done) | (rw [← HH.out]; simp; omega) | (rw [← HH.out, holeAt, HQ.out]; simp; done) | (rw [← HH.out, holeAt, HQ.out]; simp; omega))), HB3.out, HP3.out⟩
              case measure => simp [intOf]
            · go_wp2_with (first | (go_at_call 118; go_must (refine (Ih.out _ _ _ _ _ _ HH.out (by omega) (by omega) (by omega) (by omega) (by omega) (by omega) (by omega) (by omega) (by omega)).mono ?_; rintro e w1 ⟨v1, rfl, o1, hb1⟩; have hbb := bl_trans (w := wr) (by go_grown) hb1; obtain ⟨⟨A1, c1, rfl⟩, _⟩ := id o1; have O1 := Lib.hid o1; have HB1 := Lib.hid hbb; have Ho1 := Lib.hid (Ho.out.bel hbb); have HP1 := Lib.hid (HPb.out.bel hbb); have hz := hbb.size; clear o1 hb1 hbb)) | (at_builtin; go_must (refine wpList_apsT rfl (.tmp 68) (.tmp 83) rfl (w.heap.size + 1) _ _ _ _ _ _ _ rfl rfl Ho1.out O1.out (by omega) htl (miss_small (by omega)) ?_; intro A3 L3 c3 w3 hL3 o3 b3 g3; have HO3 := Lib.hid o3; have hbw := b3 _ (Below.refl _ _); have HP3 := Lib.hid (HP1.out.below hbw (Nat.lt_succ_self _)); have HB3 := Lib.hid ((bl_trans HB.out HB1.out).trans (hbw.mono (Nat.le_succ _))); clear o3 b3 g3 hbw)))
              go_roundw
              case rel => exact ⟨4, by omega, by go_num, (by have := HO3.out; rw [← missTo_step f x y hx hy 3] at this; exact this; all_goals (first | (rw [← HH.out]; simp; done) | (rw [← HH.out]; simp; omega) | (rw [← HH.out, holeAt, HQ.out]; simp; done) | (rw [← HH.out, holeAt, HQ.out]; simp; omega))), HB3.out, HP3.out⟩
              case measure => simp [intOf]
          · obtain rfl : n = 4 := by omega
            have Ho := Lib.hid own
            clear own
            go_wp2_with fail
            go_ret
            exact ⟨_, rfl, by rw [miss_succ]; exact Ho.out.mono (Nat.le_succ _), hB⟩
      · have c2n : hy < y + H := by omega
        have HQ := Lib.hid (show tileQ x y H hx hy = 1 by unfold tileQ; rw [if_pos c1, if_neg c2]; rfl)
        have E1 := Lib.hid (OwT.one_ (B := w.heap.size + 1) (w := w.alloc (.cells #[.int .i64 hx, .int .i64 hy] 35)) (x := x + H - 1) (y := y + H - 1) (z := 1) (by simp) ⟨by omega, by omega⟩ ⟨by omega, by omega⟩ ⟨by omega, by omega⟩)
        go_enter Try.func118, Try.ntmps118
        go_wp2_with fail
        go_loopw [11, 46] (fun v k wr => ∃ n : Nat, n ≤ 4 ∧ k = .int .i64 n ∧ OwT (w.heap.size + 1) wr v (missTo f x y hx hy n) ∧ Below w.heap.size w wr ∧ Blk wr w.heap.size 35 [.int .i64 hx, .int .i64 hy]) (fun _ k _ => 4 - (intOf k).toNat)
        case atStart => exact ⟨0, by omega, rfl, by have := E1.out; rw [World.size_alloc] at this; simpa [missTo, ← HH.out, HQ.out] using this, by go_grown, HP.out.alloc _⟩
        case round =>
          obtain ⟨n, hn, rfl, own, hB, P⟩ := hrel
          clear HP E1
          by_cases hlt : n < 4
          · have hml := miss_len f
            have h4f : 4 ^ f ≤ 64 := Nat.le_trans (Nat.pow_le_pow_right (by decide) (show f ≤ 3 by omega)) (by decide)
            have htl : (missTo f x y hx hy n).length ≤ 1048576 := by
              have h9 := missTo_le f x y hx hy n
              have : n * 64 ≤ 4 * 64 := Nat.mul_le_mul_right _ (by omega)
              have h10 : n * 4 ^ f ≤ n * 64 := Nat.mul_le_mul_left _ h4f
              omega
            have Hml := Lib.hid hml
            have H4f := Lib.hid h4f
            have Ho := Lib.hid own
            have HPb := Lib.hid P
            have HB := Lib.hid hB
            have hsz := hB.size
            have hpl := P.lt
            have Pc := P.c2
            clear hml h4f own P hB
            rcases (show n = 0 ∨ n = 1 ∨ n = 2 ∨ n = 3 by omega) with rfl | rfl | rfl | rfl
            · go_wp2_with (first | (go_at_call 118; go_must (refine (Ih.out _ _ _ _ _ _ HH.out (by omega) (by omega) (by omega) (by omega) (by omega) (by omega) (by omega) (by omega) (by omega)).mono ?_; rintro e w1 ⟨v1, rfl, o1, hb1⟩; have hbb := bl_trans (w := wr) (by go_grown) hb1; obtain ⟨⟨A1, c1, rfl⟩, _⟩ := id o1; have O1 := Lib.hid o1; have HB1 := Lib.hid hbb; have Ho1 := Lib.hid (Ho.out.bel hbb); have HP1 := Lib.hid (HPb.out.bel hbb); have hz := hbb.size; clear o1 hb1 hbb)) | (at_builtin; go_must (refine wpList_apsT rfl (.tmp 68) (.tmp 83) rfl (w.heap.size + 1) _ _ _ _ _ _ _ rfl rfl Ho1.out O1.out (by omega) htl (miss_small (by omega)) ?_; intro A3 L3 c3 w3 hL3 o3 b3 g3; have HO3 := Lib.hid o3; have hbw := b3 _ (Below.refl _ _); have HP3 := Lib.hid (HP1.out.below hbw (Nat.lt_succ_self _)); have HB3 := Lib.hid ((bl_trans HB.out HB1.out).trans (hbw.mono (Nat.le_succ _))); clear o3 b3 g3 hbw)))
              go_roundw
              case rel => exact ⟨1, by omega, by go_num, (by have := HO3.out; rw [← missTo_step f x y hx hy 0] at this; exact this; all_goals (first | (rw [← HH.out]; simp; done) | (rw [← HH.out]; simp; omega) | (rw [← HH.out, holeAt, HQ.out]; simp; done) | (rw [← HH.out, holeAt, HQ.out]; simp; omega))), HB3.out, HP3.out⟩
              case measure => simp [intOf]
            · go_wp2_with (first | (go_at_call 118; go_must (refine (Ih.out _ _ _ _ _ _ HH.out (by omega) (by omega) (by omega) (by omega) (by omega) (by omega) (by omega) (by omega) (by omega)).mono ?_; rintro e w1 ⟨v1, rfl, o1, hb1⟩; have hbb := bl_trans (w := wr) (by go_grown) hb1; obtain ⟨⟨A1, c1, rfl⟩, _⟩ := id o1; have O1 := Lib.hid o1; have HB1 := Lib.hid hbb; have Ho1 := Lib.hid (Ho.out.bel hbb); have HP1 := Lib.hid (HPb.out.bel hbb); have hz := hbb.size; clear o1 hb1 hbb)) | (at_builtin; go_must (refine wpList_apsT rfl (.tmp 68) (.tmp 83) rfl (w.heap.size + 1) _ _ _ _ _ _ _ rfl rfl Ho1.out O1.out (by omega) htl (miss_small (by omega)) ?_; intro A3 L3 c3 w3 hL3 o3 b3 g3; have HO3 := Lib.hid o3; have hbw := b3 _ (Below.refl _ _); have HP3 := Lib.hid (HP1.out.below hbw (Nat.lt_succ_self _)); have HB3 := Lib.hid ((bl_trans HB.out HB1.out).trans (hbw.mono (Nat.le_succ _))); clear o3 b3 g3 hbw)))
              go_roundw
              case rel => exact ⟨2, by omega, by go_num, (by have := HO3.out; rw [← missTo_step f x y hx hy 1] at this; exact this; all_goals (first | (rw [← HH.out]; simp; done) | (rw [← HH.out]; simp; omega) | (rw [← HH.out, holeAt, HQ.out]; simp; done) | (rw [← HH.out, holeAt, HQ.out]; simp; omega))), HB3.out, HP3.out⟩
              case measure => simp [intOf]
            · go_wp2_with (first | (go_at_call 118; go_must (refine (Ih.out _ _ _ _ _ _ HH.out (by omega) (by omega) (by omega) (by omega) (by omega) (by omega) (by omega) (by omega) (by omega)).mono ?_; rintro e w1 ⟨v1, rfl, o1, hb1⟩; have hbb := bl_trans (w := wr) (by go_grown) hb1; obtain ⟨⟨A1, c1, rfl⟩, _⟩ := id o1; have O1 := Lib.hid o1; have HB1 := Lib.hid hbb; have Ho1 := Lib.hid (Ho.out.bel hbb); have HP1 := Lib.hid (HPb.out.bel hbb); have hz := hbb.size; clear o1 hb1 hbb)) | (at_builtin; go_must (refine wpList_apsT rfl (.tmp 68) (.tmp 83) rfl (w.heap.size + 1) _ _ _ _ _ _ _ rfl rfl Ho1.out O1.out (by omega) htl (miss_small (by omega)) ?_; intro A3 L3 c3 w3 hL3 o3 b3 g3; have HO3 := Lib.hid o3; have hbw := b3 _ (Below.refl _ _); have HP3 := Lib.hid (HP1.out.below hbw (Nat.lt_succ_self _)); have HB3 := Lib.hid ((bl_trans HB.out HB1.out).trans (hbw.mono (Nat.le_succ _))); clear o3 b3 g3 hbw)))
              go_roundw
              case rel => exact ⟨3, by omega, by go_num, (by have := HO3.out; rw [← missTo_step f x y hx hy 2] at this; exact this; all_goals (first | (rw [← HH.out]; simp; done) | (rw [← HH.out]; simp; omega) | (rw [← HH.out, holeAt, HQ.out]; simp; done) | (rw [← HH.out, holeAt, HQ.out]; simp; omega))), HB3.out, HP3.out⟩
              case measure => simp [intOf]
            · go_wp2_with (first | (go_at_call 118; go_must (refine (Ih.out _ _ _ _ _ _ HH.out (by omega) (by omega) (by omega) (by omega) (by omega) (by omega) (by omega) (by omega) (by omega)).mono ?_; rintro e w1 ⟨v1, rfl, o1, hb1⟩; have hbb := bl_trans (w := wr) (by go_grown) hb1; obtain ⟨⟨A1, c1, rfl⟩, _⟩ := id o1; have O1 := Lib.hid o1; have HB1 := Lib.hid hbb; have Ho1 := Lib.hid (Ho.out.bel hbb); have HP1 := Lib.hid (HPb.out.bel hbb); have hz := hbb.size; clear o1 hb1 hbb)) | (at_builtin; go_must (refine wpList_apsT rfl (.tmp 68) (.tmp 83) rfl (w.heap.size + 1) _ _ _ _ _ _ _ rfl rfl Ho1.out O1.out (by omega) htl (miss_small (by omega)) ?_; intro A3 L3 c3 w3 hL3 o3 b3 g3; have HO3 := Lib.hid o3; have hbw := b3 _ (Below.refl _ _); have HP3 := Lib.hid (HP1.out.below hbw (Nat.lt_succ_self _)); have HB3 := Lib.hid ((bl_trans HB.out HB1.out).trans (hbw.mono (Nat.le_succ _))); clear o3 b3 g3 hbw)))
              go_roundw
              case rel => exact ⟨4, by omega, by go_num, (by have := HO3.out; rw [← missTo_step f x y hx hy 3] at this; exact this; all_goals (first | (rw [← HH.out]; simp; done) | (rw [← HH.out]; simp; omega) | (rw [← HH.out, holeAt, HQ.out]; simp; done) | (rw [← HH.out, holeAt, HQ.out]; simp; omega))), HB3.out, HP3.out⟩
              case measure => simp [intOf]
          · obtain rfl : n = 4 := by omega
            have Ho := Lib.hid own
            clear own
            go_wp2_with fail
            go_ret
            exact ⟨_, rfl, by rw [miss_succ]; exact Ho.out.mono (Nat.le_succ _), hB⟩
    · have c1n : hx < x + H := by omega
      by_cases c2 : y + H ≤ hy
      · have HQ := Lib.hid (show tileQ x y H hx hy = 2 by unfold tileQ; rw [if_neg c1, if_pos c2]; rfl)
        have E1 := Lib.hid (OwT.one_ (B := w.heap.size + 1) (w := w.alloc (.cells #[.int .i64 hx, .int .i64 hy] 35)) (x := x + H - 1) (y := y + H - 1) (z := 2) (by simp) ⟨by omega, by omega⟩ ⟨by omega, by omega⟩ ⟨by omega, by omega⟩)
        go_enter Try.func118, Try.ntmps118
        go_wp2_with fail
        go_loopw [11, 46] (fun v k wr => ∃ n : Nat, n ≤ 4 ∧ k = .int .i64 n ∧ OwT (w.heap.size + 1) wr v (missTo f x y hx hy n) ∧ Below w.heap.size w wr ∧ Blk wr w.heap.size 35 [.int .i64 hx, .int .i64 hy]) (fun _ k _ => 4 - (intOf k).toNat)
        case atStart => exact ⟨0, by omega, rfl, by have := E1.out; rw [World.size_alloc] at this; simpa [missTo, ← HH.out, HQ.out] using this, by go_grown, HP.out.alloc _⟩
        case round =>
          obtain ⟨n, hn, rfl, own, hB, P⟩ := hrel
          clear HP E1
          by_cases hlt : n < 4
          · have hml := miss_len f
            have h4f : 4 ^ f ≤ 64 := Nat.le_trans (Nat.pow_le_pow_right (by decide) (show f ≤ 3 by omega)) (by decide)
            have htl : (missTo f x y hx hy n).length ≤ 1048576 := by
              have h9 := missTo_le f x y hx hy n
              have : n * 64 ≤ 4 * 64 := Nat.mul_le_mul_right _ (by omega)
              have h10 : n * 4 ^ f ≤ n * 64 := Nat.mul_le_mul_left _ h4f
              omega
            have Hml := Lib.hid hml
            have H4f := Lib.hid h4f
            have Ho := Lib.hid own
            have HPb := Lib.hid P
            have HB := Lib.hid hB
            have hsz := hB.size
            have hpl := P.lt
            have Pc := P.c2
            clear hml h4f own P hB
            rcases (show n = 0 ∨ n = 1 ∨ n = 2 ∨ n = 3 by omega) with rfl | rfl | rfl | rfl
            · go_wp2_with (first | (go_at_call 118; go_must (refine (Ih.out _ _ _ _ _ _ HH.out (by omega) (by omega) (by omega) (by omega) (by omega) (by omega) (by omega) (by omega) (by omega)).mono ?_; rintro e w1 ⟨v1, rfl, o1, hb1⟩; have hbb := bl_trans (w := wr) (by go_grown) hb1; obtain ⟨⟨A1, c1, rfl⟩, _⟩ := id o1; have O1 := Lib.hid o1; have HB1 := Lib.hid hbb; have Ho1 := Lib.hid (Ho.out.bel hbb); have HP1 := Lib.hid (HPb.out.bel hbb); have hz := hbb.size; clear o1 hb1 hbb)) | (at_builtin; go_must (refine wpList_apsT rfl (.tmp 68) (.tmp 83) rfl (w.heap.size + 1) _ _ _ _ _ _ _ rfl rfl Ho1.out O1.out (by omega) htl (miss_small (by omega)) ?_; intro A3 L3 c3 w3 hL3 o3 b3 g3; have HO3 := Lib.hid o3; have hbw := b3 _ (Below.refl _ _); have HP3 := Lib.hid (HP1.out.below hbw (Nat.lt_succ_self _)); have HB3 := Lib.hid ((bl_trans HB.out HB1.out).trans (hbw.mono (Nat.le_succ _))); clear o3 b3 g3 hbw)))
              go_roundw
              case rel => exact ⟨1, by omega, by go_num, (by have := HO3.out; rw [← missTo_step f x y hx hy 0] at this; exact this; all_goals (first | (rw [← HH.out]; simp; done) | (rw [← HH.out]; simp; omega) | (rw [← HH.out, holeAt, HQ.out]; simp; done) | (rw [← HH.out, holeAt, HQ.out]; simp; omega))), HB3.out, HP3.out⟩
              case measure => simp [intOf]
            · go_wp2_with (first | (go_at_call 118; go_must (refine (Ih.out _ _ _ _ _ _ HH.out (by omega) (by omega) (by omega) (by omega) (by omega) (by omega) (by omega) (by omega) (by omega)).mono ?_; rintro e w1 ⟨v1, rfl, o1, hb1⟩; have hbb := bl_trans (w := wr) (by go_grown) hb1; obtain ⟨⟨A1, c1, rfl⟩, _⟩ := id o1; have O1 := Lib.hid o1; have HB1 := Lib.hid hbb; have Ho1 := Lib.hid (Ho.out.bel hbb); have HP1 := Lib.hid (HPb.out.bel hbb); have hz := hbb.size; clear o1 hb1 hbb)) | (at_builtin; go_must (refine wpList_apsT rfl (.tmp 68) (.tmp 83) rfl (w.heap.size + 1) _ _ _ _ _ _ _ rfl rfl Ho1.out O1.out (by omega) htl (miss_small (by omega)) ?_; intro A3 L3 c3 w3 hL3 o3 b3 g3; have HO3 := Lib.hid o3; have hbw := b3 _ (Below.refl _ _); have HP3 := Lib.hid (HP1.out.below hbw (Nat.lt_succ_self _)); have HB3 := Lib.hid ((bl_trans HB.out HB1.out).trans (hbw.mono (Nat.le_succ _))); clear o3 b3 g3 hbw)))
              go_roundw
              case rel => exact ⟨2, by omega, by go_num, (by have := HO3.out; rw [← missTo_step f x y hx hy 1] at this; exact this; all_goals (first | (rw [← HH.out]; simp; done) | (rw [← HH.out]; simp; omega) | (rw [← HH.out, holeAt, HQ.out]; simp; done) | (rw [← HH.out, holeAt, HQ.out]; simp; omega))), HB3.out, HP3.out⟩
              case measure => simp [intOf]
            · go_wp2_with (first | (go_at_call 118; go_must (refine (Ih.out _ _ _ _ _ _ HH.out (by omega) (by omega) (by omega) (by omega) (by omega) (by omega) (by omega) (by omega) (by omega)).mono ?_; rintro e w1 ⟨v1, rfl, o1, hb1⟩; have hbb := bl_trans (w := wr) (by go_grown) hb1; obtain ⟨⟨A1, c1, rfl⟩, _⟩ := id o1; have O1 := Lib.hid o1; have HB1 := Lib.hid hbb; have Ho1 := Lib.hid (Ho.out.bel hbb); have HP1 := Lib.hid (HPb.out.bel hbb); have hz := hbb.size; clear o1 hb1 hbb)) | (at_builtin; go_must (refine wpList_apsT rfl (.tmp 68) (.tmp 83) rfl (w.heap.size + 1) _ _ _ _ _ _ _ rfl rfl Ho1.out O1.out (by omega) htl (miss_small (by omega)) ?_; intro A3 L3 c3 w3 hL3 o3 b3 g3; have HO3 := Lib.hid o3; have hbw := b3 _ (Below.refl _ _); have HP3 := Lib.hid (HP1.out.below hbw (Nat.lt_succ_self _)); have HB3 := Lib.hid ((bl_trans HB.out HB1.out).trans (hbw.mono (Nat.le_succ _))); clear o3 b3 g3 hbw)))
              go_roundw
              case rel => exact ⟨3, by omega, by go_num, (by have := HO3.out; rw [← missTo_step f x y hx hy 2] at this; exact this; all_goals (first | (rw [← HH.out]; simp; done) | (rw [← HH.out]; simp; omega) | (rw [← HH.out, holeAt, HQ.out]; simp; done) | (rw [← HH.out, holeAt, HQ.out]; simp; omega))), HB3.out, HP3.out⟩
              case measure => simp [intOf]
            · go_wp2_with (first | (go_at_call 118; go_must (refine (Ih.out _ _ _ _ _ _ HH.out (by omega) (by omega) (by omega) (by omega) (by omega) (by omega) (by omega) (by omega) (by omega)).mono ?_; rintro e w1 ⟨v1, rfl, o1, hb1⟩; have hbb := bl_trans (w := wr) (by go_grown) hb1; obtain ⟨⟨A1, c1, rfl⟩, _⟩ := id o1; have O1 := Lib.hid o1; have HB1 := Lib.hid hbb; have Ho1 := Lib.hid (Ho.out.bel hbb); have HP1 := Lib.hid (HPb.out.bel hbb); have hz := hbb.size; clear o1 hb1 hbb)) | (at_builtin; go_must (refine wpList_apsT rfl (.tmp 68) (.tmp 83) rfl (w.heap.size + 1) _ _ _ _ _ _ _ rfl rfl Ho1.out O1.out (by omega) htl (miss_small (by omega)) ?_; intro A3 L3 c3 w3 hL3 o3 b3 g3; have HO3 := Lib.hid o3; have hbw := b3 _ (Below.refl _ _); have HP3 := Lib.hid (HP1.out.below hbw (Nat.lt_succ_self _)); have HB3 := Lib.hid ((bl_trans HB.out HB1.out).trans (hbw.mono (Nat.le_succ _))); clear o3 b3 g3 hbw)))
              go_roundw
              case rel => exact ⟨4, by omega, by go_num, (by have := HO3.out; rw [← missTo_step f x y hx hy 3] at this; exact this; all_goals (first | (rw [← HH.out]; simp; done) | (rw [← HH.out]; simp; omega) | (rw [← HH.out, holeAt, HQ.out]; simp; done) | (rw [← HH.out, holeAt, HQ.out]; simp; omega))), HB3.out, HP3.out⟩
              case measure => simp [intOf]
          · obtain rfl : n = 4 := by omega
            have Ho := Lib.hid own
            clear own
            go_wp2_with fail
            go_ret
            exact ⟨_, rfl, by rw [miss_succ]; exact Ho.out.mono (Nat.le_succ _), hB⟩
      · have c2n : hy < y + H := by omega
        have HQ := Lib.hid (show tileQ x y H hx hy = 0 by unfold tileQ; rw [if_neg c1, if_neg c2]; rfl)
        have E1 := Lib.hid (OwT.one_ (B := w.heap.size + 1) (w := w.alloc (.cells #[.int .i64 hx, .int .i64 hy] 35)) (x := x + H - 1) (y := y + H - 1) (z := 0) (by simp) ⟨by omega, by omega⟩ ⟨by omega, by omega⟩ ⟨by omega, by omega⟩)
        go_enter Try.func118, Try.ntmps118
        go_wp2_with fail
        go_loopw [11, 46] (fun v k wr => ∃ n : Nat, n ≤ 4 ∧ k = .int .i64 n ∧ OwT (w.heap.size + 1) wr v (missTo f x y hx hy n) ∧ Below w.heap.size w wr ∧ Blk wr w.heap.size 35 [.int .i64 hx, .int .i64 hy]) (fun _ k _ => 4 - (intOf k).toNat)
        case atStart => exact ⟨0, by omega, rfl, by have := E1.out; rw [World.size_alloc] at this; simpa [missTo, ← HH.out, HQ.out] using this, by go_grown, HP.out.alloc _⟩
        case round =>
          obtain ⟨n, hn, rfl, own, hB, P⟩ := hrel
          clear HP E1
          by_cases hlt : n < 4
          · have hml := miss_len f
            have h4f : 4 ^ f ≤ 64 := Nat.le_trans (Nat.pow_le_pow_right (by decide) (show f ≤ 3 by omega)) (by decide)
            have htl : (missTo f x y hx hy n).length ≤ 1048576 := by
              have h9 := missTo_le f x y hx hy n
              have : n * 64 ≤ 4 * 64 := Nat.mul_le_mul_right _ (by omega)
              have h10 : n * 4 ^ f ≤ n * 64 := Nat.mul_le_mul_left _ h4f
              omega
            have Hml := Lib.hid hml
            have H4f := Lib.hid h4f
            have Ho := Lib.hid own
            have HPb := Lib.hid P
            have HB := Lib.hid hB
            have hsz := hB.size
            have hpl := P.lt
            have Pc := P.c2
            clear hml h4f own P hB
            rcases (show n = 0 ∨ n = 1 ∨ n = 2 ∨ n = 3 by omega) with rfl | rfl | rfl | rfl
            · go_wp2_with (first | (go_at_call 118; go_must (refine (Ih.out _ _ _ _ _ _ HH.out (by omega) (by omega) (by omega) (by omega) (by omega) (by omega) (by omega) (by omega) (by omega)).mono ?_; rintro e w1 ⟨v1, rfl, o1, hb1⟩; have hbb := bl_trans (w := wr) (by go_grown) hb1; obtain ⟨⟨A1, c1, rfl⟩, _⟩ := id o1; have O1 := Lib.hid o1; have HB1 := Lib.hid hbb; have Ho1 := Lib.hid (Ho.out.bel hbb); have HP1 := Lib.hid (HPb.out.bel hbb); have hz := hbb.size; clear o1 hb1 hbb)) | (at_builtin; go_must (refine wpList_apsT rfl (.tmp 68) (.tmp 83) rfl (w.heap.size + 1) _ _ _ _ _ _ _ rfl rfl Ho1.out O1.out (by omega) htl (miss_small (by omega)) ?_; intro A3 L3 c3 w3 hL3 o3 b3 g3; have HO3 := Lib.hid o3; have hbw := b3 _ (Below.refl _ _); have HP3 := Lib.hid (HP1.out.below hbw (Nat.lt_succ_self _)); have HB3 := Lib.hid ((bl_trans HB.out HB1.out).trans (hbw.mono (Nat.le_succ _))); clear o3 b3 g3 hbw)))
              go_roundw
              case rel => exact ⟨1, by omega, by go_num, (by have := HO3.out; rw [← missTo_step f x y hx hy 0] at this; exact this; all_goals (first | (rw [← HH.out]; simp; done) | (rw [← HH.out]; simp; omega) | (rw [← HH.out, holeAt, HQ.out]; simp; done) | (rw [← HH.out, holeAt, HQ.out]; simp; omega))), HB3.out, HP3.out⟩
              case measure => simp [intOf]
            · go_wp2_with (first | (go_at_call 118; go_must (refine (Ih.out _ _ _ _ _ _ HH.out (by omega) (by omega) (by omega) (by omega) (by omega) (by omega) (by omega) (by omega) (by omega)).mono ?_; rintro e w1 ⟨v1, rfl, o1, hb1⟩; have hbb := bl_trans (w := wr) (by go_grown) hb1; obtain ⟨⟨A1, c1, rfl⟩, _⟩ := id o1; have O1 := Lib.hid o1; have HB1 := Lib.hid hbb; have Ho1 := Lib.hid (Ho.out.bel hbb); have HP1 := Lib.hid (HPb.out.bel hbb); have hz := hbb.size; clear o1 hb1 hbb)) | (at_builtin; go_must (refine wpList_apsT rfl (.tmp 68) (.tmp 83) rfl (w.heap.size + 1) _ _ _ _ _ _ _ rfl rfl Ho1.out O1.out (by omega) htl (miss_small (by omega)) ?_; intro A3 L3 c3 w3 hL3 o3 b3 g3; have HO3 := Lib.hid o3; have hbw := b3 _ (Below.refl _ _); have HP3 := Lib.hid (HP1.out.below hbw (Nat.lt_succ_self _)); have HB3 := Lib.hid ((bl_trans HB.out HB1.out).trans (hbw.mono (Nat.le_succ _))); clear o3 b3 g3 hbw)))
              go_roundw
              case rel => exact ⟨2, by omega, by go_num, (by have := HO3.out; rw [← missTo_step f x y hx hy 1] at this; exact this; all_goals (first | (rw [← HH.out]; simp; done) | (rw [← HH.out]; simp; omega) | (rw [← HH.out, holeAt, HQ.out]; simp; done) | (rw [← HH.out, holeAt, HQ.out]; simp; omega))), HB3.out, HP3.out⟩
              case measure => simp [intOf]
            · go_wp2_with (first | (go_at_call 118; go_must (refine (Ih.out _ _ _ _ _ _ HH.out (by omega) (by omega) (by omega) (by omega) (by omega) (by omega) (by omega) (by omega) (by omega)).mono ?_; rintro e w1 ⟨v1, rfl, o1, hb1⟩; have hbb := bl_trans (w := wr) (by go_grown) hb1; obtain ⟨⟨A1, c1, rfl⟩, _⟩ := id o1; have O1 := Lib.hid o1; have HB1 := Lib.hid hbb; have Ho1 := Lib.hid (Ho.out.bel hbb); have HP1 := Lib.hid (HPb.out.bel hbb); have hz := hbb.size; clear o1 hb1 hbb)) | (at_builtin; go_must (refine wpList_apsT rfl (.tmp 68) (.tmp 83) rfl (w.heap.size + 1) _ _ _ _ _ _ _ rfl rfl Ho1.out O1.out (by omega) htl (miss_small (by omega)) ?_; intro A3 L3 c3 w3 hL3 o3 b3 g3; have HO3 := Lib.hid o3; have hbw := b3 _ (Below.refl _ _); have HP3 := Lib.hid (HP1.out.below hbw (Nat.lt_succ_self _)); have HB3 := Lib.hid ((bl_trans HB.out HB1.out).trans (hbw.mono (Nat.le_succ _))); clear o3 b3 g3 hbw)))
              go_roundw
              case rel => exact ⟨3, by omega, by go_num, (by have := HO3.out; rw [← missTo_step f x y hx hy 2] at this; exact this; all_goals (first | (rw [← HH.out]; simp; done) | (rw [← HH.out]; simp; omega) | (rw [← HH.out, holeAt, HQ.out]; simp; done) | (rw [← HH.out, holeAt, HQ.out]; simp; omega))), HB3.out, HP3.out⟩
              case measure => simp [intOf]
            · go_wp2_with (first | (go_at_call 118; go_must (refine (Ih.out _ _ _ _ _ _ HH.out (by omega) (by omega) (by omega) (by omega) (by omega) (by omega) (by omega) (by omega) (by omega)).mono ?_; rintro e w1 ⟨v1, rfl, o1, hb1⟩; have hbb := bl_trans (w := wr) (by go_grown) hb1; obtain ⟨⟨A1, c1, rfl⟩, _⟩ := id o1; have O1 := Lib.hid o1; have HB1 := Lib.hid hbb; have Ho1 := Lib.hid (Ho.out.bel hbb); have HP1 := Lib.hid (HPb.out.bel hbb); have hz := hbb.size; clear o1 hb1 hbb)) | (at_builtin; go_must (refine wpList_apsT rfl (.tmp 68) (.tmp 83) rfl (w.heap.size + 1) _ _ _ _ _ _ _ rfl rfl Ho1.out O1.out (by omega) htl (miss_small (by omega)) ?_; intro A3 L3 c3 w3 hL3 o3 b3 g3; have HO3 := Lib.hid o3; have hbw := b3 _ (Below.refl _ _); have HP3 := Lib.hid (HP1.out.below hbw (Nat.lt_succ_self _)); have HB3 := Lib.hid ((bl_trans HB.out HB1.out).trans (hbw.mono (Nat.le_succ _))); clear o3 b3 g3 hbw)))
              go_roundw
              case rel => exact ⟨4, by omega, by go_num, (by have := HO3.out; rw [← missTo_step f x y hx hy 3] at this; exact this; all_goals (first | (rw [← HH.out]; simp; done) | (rw [← HH.out]; simp; omega) | (rw [← HH.out, holeAt, HQ.out]; simp; done) | (rw [← HH.out, holeAt, HQ.out]; simp; omega))), HB3.out, HP3.out⟩
              case measure => simp [intOf]
          · obtain rfl : n = 4 := by omega
            have Ho := Lib.hid own
            clear own
            go_wp2_with fail
            go_ret
            exact ⟨_, rfl, by rw [miss_succ]; exact Ho.out.mono (Nat.le_succ _), hB⟩
def tmOk (k hx hy : Int) : Bool := inB k 0 3 && inB hx 0 (two k.toNat - 1) && inB hy 0 (two k.toNat - 1)
def tmL (k hx hy : Int) : List (Int × Int × Int) := if tmOk k hx hy then miss k.toNat 0 0 hx hy else []
theorem tmL_len (k hx hy : Int) : (tmL k hx hy).length ≤ 64 := by
  unfold tmL
  split
  · rename_i h
    simp only [tmOk, Bool.and_eq_true, inB_true] at h
    have h1 := miss_len k.toNat 0 0 hx hy
    have h2 : 4 ^ k.toNat ≤ 64 := Nat.le_trans (Nat.pow_le_pow_right (by decide) (show k.toNat ≤ 3 by omega)) (by decide)
    omega
  · simp
set_option maxRecDepth 100000 in
set_option maxHeartbeats 8000000 in
theorem TileMissing_i (k hx hy : Int) (w : World) :
    Calls Try.prog 38 #[.int .i64 k, .agg #[.int .i64 hx, .int .i64 hy]] w fun e w' => ∃ v, e = .returned (.tuple #[v, .bool (tmOk k hx hy)]) ∧ OwT w.heap.size w' v (tmL k hx hy) ∧ Below w.heap.size w w' := by
  have P := Blk.new w 35 [.int .i64 hx, .int .i64 hy]
  have Pc := P.c2
  have q0 := bq_cell Pc.1
  have q1 := bq_cell Pc.2
  cases c1 : inB k 0 3
  · skip
    have hv := Lib.hid (show tmOk k hx hy = false by rw [tmOk, c1]; rfl)
    have hv2 := Lib.hid (show tmL k hx hy = [] by rw [tmL, hv.out]; rfl)
    go_enter Try.func38, Try.ntmps38
    go_wp2_with fail
    (refine wp_region_quiet_bel (by kernel_rfl) (by kernel_rfl) ?_; (repeat (first | go_big_quiet_step ((go_at_call 89; exact Calls.bel_of_same (within_any _ _ _ _))) | quiet_step ((go_at_call 89; exact Calls.bel_of_same (within_any _ _ _ _))))); refine wpQuiet_nil ?_; intro wq hw0; obtain ⟨⟨_, hbq⟩, hw1⟩ := hw0; subst hw1; try dsimp only)
    go_wp2
    go_ret2
    exact ⟨_, by rw [hv.out]; rfl, by rw [hv2.out]; exact OwT.nil_ _ _, bl_trans (by go_grown) hbq⟩
  · have i1 := inB_true.1 c1
    rcases (show k = 0 ∨ k = 1 ∨ k = 2 ∨ k = 3 by omega) with rfl | rfl | rfl | rfl
    · clear i1
      cases c2 : inB hx 0 0
      · skip
        have hv := Lib.hid (show tmOk 0 hx hy = false by rw [tmOk, show two (Int.toNat 0) - 1 = 0 from rfl, c2, Bool.and_false]; rfl)
        have hv2 := Lib.hid (show tmL 0 hx hy = [] by rw [tmL, hv.out]; rfl)
        go_enter Try.func38, Try.ntmps38
        go_wp2_with fail
        (refine wp_region_quiet_bel (by kernel_rfl) (by kernel_rfl) ?_; (repeat (first | go_big_quiet_step ((go_at_call 89; exact Calls.bel_of_same (within_any _ _ _ _))) | quiet_step ((go_at_call 89; exact Calls.bel_of_same (within_any _ _ _ _))))); refine wpQuiet_nil ?_; intro wq hw0; obtain ⟨⟨_, hbq⟩, hw1⟩ := hw0; subst hw1; try dsimp only)
        go_wp2
        go_ret2
        exact ⟨_, by rw [hv.out]; rfl, by rw [hv2.out]; exact OwT.nil_ _ _, bl_trans (by go_grown) hbq⟩
      · cases c3 : inB hy 0 0
        · skip
          have hv := Lib.hid (show tmOk 0 hx hy = false by rw [tmOk, show two (Int.toNat 0) - 1 = 0 from rfl, c3, Bool.and_false])
          have hv2 := Lib.hid (show tmL 0 hx hy = [] by rw [tmL, hv.out]; rfl)
          go_enter Try.func38, Try.ntmps38
          go_wp2_with fail
          (refine wp_region_quiet_bel (by kernel_rfl) (by kernel_rfl) ?_; (repeat (first | go_big_quiet_step ((go_at_call 89; exact Calls.bel_of_same (within_any _ _ _ _))) | quiet_step ((go_at_call 89; exact Calls.bel_of_same (within_any _ _ _ _))))); refine wpQuiet_nil ?_; intro wq hw0; obtain ⟨⟨_, hbq⟩, hw1⟩ := hw0; subst hw1; try dsimp only)
          go_wp2
          go_ret2
          exact ⟨_, by rw [hv.out]; rfl, by rw [hv2.out]; exact OwT.nil_ _ _, bl_trans (by go_grown) hbq⟩
        · have hv := Lib.hid (show tmOk 0 hx hy = true by rw [tmOk, show two (Int.toNat 0) - 1 = 0 from rfl, c3, c2]; rfl)
          have hv2 := Lib.hid (show tmL 0 hx hy = miss 0 0 0 hx hy by rw [tmL, hv.out]; rfl)
          have i2 := inB_true.1 c2
          have i3 := inB_true.1 c3
          have HP := Lib.hid P
          go_enter Try.func38, Try.ntmps38
          go_wp2_with fail
          (refine wp_region_quiet_bel (by kernel_rfl) (by kernel_rfl) ?_; (repeat (first | go_big_quiet_step ((go_at_call 89; exact Calls.bel_of_same (within_any _ _ _ _))) | quiet_step ((go_at_call 89; exact Calls.bel_of_same (within_any _ _ _ _))))); refine wpQuiet_nil ?_; intro wq hw0; obtain ⟨⟨_, hbq⟩, hw1⟩ := hw0; subst hw1; try dsimp only)
          have hb2 := bl_trans (w := w) (by go_grown) hbq
          have P2 := HP.out.bel hbq
          have P2c := P2.c2
          go_wp2_with fail
          go_region_held3 (fun w' => w'.cell? ⟨w.heap.size, 0, none⟩ = some (.int .i64 hx) ∧ w'.cell? ⟨w.heap.size, 1, none⟩ = some (.int .i64 hy)) (go_keep)
            (first | (go_at_call 118; refine (missing_i 0 0 0 1 hx hy _ rfl (by decide) (by decide) (by decide) (by decide) (by decide) (by omega) (by omega) (by omega) (by omega)).mono ?_; rintro e w2 ⟨v2, rfl, o2, hb3⟩; have hb4 := bl_trans (bl_trans hb2 (by go_grown)) hb3; have P3 := (P2.bel (bl_trans (by go_grown) hb3)).c2; have O2 := Lib.hid (o2.mono (bl_trans hb2 (w1 := _) (by go_grown)).size); obtain ⟨⟨A2, c2', rfl⟩, _⟩ := id o2; clear o2 hb3))
          go_wp2_with fail
          go_ret2
          exact ⟨_, by rw [hv.out]; rfl, by rw [hv2.out]; exact O2.out, hb4⟩
    · clear i1
      cases c2 : inB hx 0 1
      · skip
        have hv := Lib.hid (show tmOk 1 hx hy = false by rw [tmOk, show two (Int.toNat 1) - 1 = 1 from rfl, c2, Bool.and_false]; rfl)
        have hv2 := Lib.hid (show tmL 1 hx hy = [] by rw [tmL, hv.out]; rfl)
        go_enter Try.func38, Try.ntmps38
        go_wp2_with fail
        (refine wp_region_quiet_bel (by kernel_rfl) (by kernel_rfl) ?_; (repeat (first | go_big_quiet_step ((go_at_call 89; exact Calls.bel_of_same (within_any _ _ _ _))) | quiet_step ((go_at_call 89; exact Calls.bel_of_same (within_any _ _ _ _))))); refine wpQuiet_nil ?_; intro wq hw0; obtain ⟨⟨_, hbq⟩, hw1⟩ := hw0; subst hw1; try dsimp only)
        go_wp2
        go_ret2
        exact ⟨_, by rw [hv.out]; rfl, by rw [hv2.out]; exact OwT.nil_ _ _, bl_trans (by go_grown) hbq⟩
      · cases c3 : inB hy 0 1
        · skip
          have hv := Lib.hid (show tmOk 1 hx hy = false by rw [tmOk, show two (Int.toNat 1) - 1 = 1 from rfl, c3, Bool.and_false])
          have hv2 := Lib.hid (show tmL 1 hx hy = [] by rw [tmL, hv.out]; rfl)
          go_enter Try.func38, Try.ntmps38
          go_wp2_with fail
          (refine wp_region_quiet_bel (by kernel_rfl) (by kernel_rfl) ?_; (repeat (first | go_big_quiet_step ((go_at_call 89; exact Calls.bel_of_same (within_any _ _ _ _))) | quiet_step ((go_at_call 89; exact Calls.bel_of_same (within_any _ _ _ _))))); refine wpQuiet_nil ?_; intro wq hw0; obtain ⟨⟨_, hbq⟩, hw1⟩ := hw0; subst hw1; try dsimp only)
          go_wp2
          go_ret2
          exact ⟨_, by rw [hv.out]; rfl, by rw [hv2.out]; exact OwT.nil_ _ _, bl_trans (by go_grown) hbq⟩
        · have hv := Lib.hid (show tmOk 1 hx hy = true by rw [tmOk, show two (Int.toNat 1) - 1 = 1 from rfl, c3, c2]; rfl)
          have hv2 := Lib.hid (show tmL 1 hx hy = miss 1 0 0 hx hy by rw [tmL, hv.out]; rfl)
          have i2 := inB_true.1 c2
          have i3 := inB_true.1 c3
          have HP := Lib.hid P
          go_enter Try.func38, Try.ntmps38
          go_wp2_with fail
          (refine wp_region_quiet_bel (by kernel_rfl) (by kernel_rfl) ?_; (repeat (first | go_big_quiet_step ((go_at_call 89; exact Calls.bel_of_same (within_any _ _ _ _))) | quiet_step ((go_at_call 89; exact Calls.bel_of_same (within_any _ _ _ _))))); refine wpQuiet_nil ?_; intro wq hw0; obtain ⟨⟨_, hbq⟩, hw1⟩ := hw0; subst hw1; try dsimp only)
          have hb2 := bl_trans (w := w) (by go_grown) hbq
          have P2 := HP.out.bel hbq
          have P2c := P2.c2
          go_wp2_with fail
          go_region_held3 (fun w' => w'.cell? ⟨w.heap.size, 0, none⟩ = some (.int .i64 hx) ∧ w'.cell? ⟨w.heap.size, 1, none⟩ = some (.int .i64 hy)) (go_keep)
            (first | (go_at_call 118; refine (missing_i 1 0 0 2 hx hy _ rfl (by decide) (by decide) (by decide) (by decide) (by decide) (by omega) (by omega) (by omega) (by omega)).mono ?_; rintro e w2 ⟨v2, rfl, o2, hb3⟩; have hb4 := bl_trans (bl_trans hb2 (by go_grown)) hb3; have P3 := (P2.bel (bl_trans (by go_grown) hb3)).c2; have O2 := Lib.hid (o2.mono (bl_trans hb2 (w1 := _) (by go_grown)).size); obtain ⟨⟨A2, c2', rfl⟩, _⟩ := id o2; clear o2 hb3))
          go_wp2_with fail
          go_ret2
          exact ⟨_, by rw [hv.out]; rfl, by rw [hv2.out]; exact O2.out, hb4⟩
    · clear i1
      cases c2 : inB hx 0 3
      · skip
        have hv := Lib.hid (show tmOk 2 hx hy = false by rw [tmOk, show two (Int.toNat 2) - 1 = 3 from rfl, c2, Bool.and_false]; rfl)
        have hv2 := Lib.hid (show tmL 2 hx hy = [] by rw [tmL, hv.out]; rfl)
        go_enter Try.func38, Try.ntmps38
        go_wp2_with fail
        (refine wp_region_quiet_bel (by kernel_rfl) (by kernel_rfl) ?_; (repeat (first | go_big_quiet_step ((go_at_call 89; exact Calls.bel_of_same (within_any _ _ _ _))) | quiet_step ((go_at_call 89; exact Calls.bel_of_same (within_any _ _ _ _))))); refine wpQuiet_nil ?_; intro wq hw0; obtain ⟨⟨_, hbq⟩, hw1⟩ := hw0; subst hw1; try dsimp only)
        go_wp2
        go_ret2
        exact ⟨_, by rw [hv.out]; rfl, by rw [hv2.out]; exact OwT.nil_ _ _, bl_trans (by go_grown) hbq⟩
      · cases c3 : inB hy 0 3
        · skip
          have hv := Lib.hid (show tmOk 2 hx hy = false by rw [tmOk, show two (Int.toNat 2) - 1 = 3 from rfl, c3, Bool.and_false])
          have hv2 := Lib.hid (show tmL 2 hx hy = [] by rw [tmL, hv.out]; rfl)
          go_enter Try.func38, Try.ntmps38
          go_wp2_with fail
          (refine wp_region_quiet_bel (by kernel_rfl) (by kernel_rfl) ?_; (repeat (first | go_big_quiet_step ((go_at_call 89; exact Calls.bel_of_same (within_any _ _ _ _))) | quiet_step ((go_at_call 89; exact Calls.bel_of_same (within_any _ _ _ _))))); refine wpQuiet_nil ?_; intro wq hw0; obtain ⟨⟨_, hbq⟩, hw1⟩ := hw0; subst hw1; try dsimp only)
          go_wp2
          go_ret2
          exact ⟨_, by rw [hv.out]; rfl, by rw [hv2.out]; exact OwT.nil_ _ _, bl_trans (by go_grown) hbq⟩
        · have hv := Lib.hid (show tmOk 2 hx hy = true by rw [tmOk, show two (Int.toNat 2) - 1 = 3 from rfl, c3, c2]; rfl)
          have hv2 := Lib.hid (show tmL 2 hx hy = miss 2 0 0 hx hy by rw [tmL, hv.out]; rfl)
          have i2 := inB_true.1 c2
          have i3 := inB_true.1 c3
          have HP := Lib.hid P
          go_enter Try.func38, Try.ntmps38
          go_wp2_with fail
          (refine wp_region_quiet_bel (by kernel_rfl) (by kernel_rfl) ?_; (repeat (first | go_big_quiet_step ((go_at_call 89; exact Calls.bel_of_same (within_any _ _ _ _))) | quiet_step ((go_at_call 89; exact Calls.bel_of_same (within_any _ _ _ _))))); refine wpQuiet_nil ?_; intro wq hw0; obtain ⟨⟨_, hbq⟩, hw1⟩ := hw0; subst hw1; try dsimp only)
          have hb2 := bl_trans (w := w) (by go_grown) hbq
          have P2 := HP.out.bel hbq
          have P2c := P2.c2
          go_wp2_with fail
          go_region_held3 (fun w' => w'.cell? ⟨w.heap.size, 0, none⟩ = some (.int .i64 hx) ∧ w'.cell? ⟨w.heap.size, 1, none⟩ = some (.int .i64 hy)) (go_keep)
            (first | (go_at_call 118; refine (missing_i 2 0 0 4 hx hy _ rfl (by decide) (by decide) (by decide) (by decide) (by decide) (by omega) (by omega) (by omega) (by omega)).mono ?_; rintro e w2 ⟨v2, rfl, o2, hb3⟩; have hb4 := bl_trans (bl_trans hb2 (by go_grown)) hb3; have P3 := (P2.bel (bl_trans (by go_grown) hb3)).c2; have O2 := Lib.hid (o2.mono (bl_trans hb2 (w1 := _) (by go_grown)).size); obtain ⟨⟨A2, c2', rfl⟩, _⟩ := id o2; clear o2 hb3))
          go_wp2_with fail
          go_ret2
          exact ⟨_, by rw [hv.out]; rfl, by rw [hv2.out]; exact O2.out, hb4⟩
    · clear i1
      cases c2 : inB hx 0 7
      · skip
        have hv := Lib.hid (show tmOk 3 hx hy = false by rw [tmOk, show two (Int.toNat 3) - 1 = 7 from rfl, c2, Bool.and_false]; rfl)
        have hv2 := Lib.hid (show tmL 3 hx hy = [] by rw [tmL, hv.out]; rfl)
        go_enter Try.func38, Try.ntmps38
        go_wp2_with fail
        (refine wp_region_quiet_bel (by kernel_rfl) (by kernel_rfl) ?_; (repeat (first | go_big_quiet_step ((go_at_call 89; exact Calls.bel_of_same (within_any _ _ _ _))) | quiet_step ((go_at_call 89; exact Calls.bel_of_same (within_any _ _ _ _))))); refine wpQuiet_nil ?_; intro wq hw0; obtain ⟨⟨_, hbq⟩, hw1⟩ := hw0; subst hw1; try dsimp only)
        go_wp2
        go_ret2
        exact ⟨_, by rw [hv.out]; rfl, by rw [hv2.out]; exact OwT.nil_ _ _, bl_trans (by go_grown) hbq⟩
      · cases c3 : inB hy 0 7
        · skip
          have hv := Lib.hid (show tmOk 3 hx hy = false by rw [tmOk, show two (Int.toNat 3) - 1 = 7 from rfl, c3, Bool.and_false])
          have hv2 := Lib.hid (show tmL 3 hx hy = [] by rw [tmL, hv.out]; rfl)
          go_enter Try.func38, Try.ntmps38
          go_wp2_with fail
          (refine wp_region_quiet_bel (by kernel_rfl) (by kernel_rfl) ?_; (repeat (first | go_big_quiet_step ((go_at_call 89; exact Calls.bel_of_same (within_any _ _ _ _))) | quiet_step ((go_at_call 89; exact Calls.bel_of_same (within_any _ _ _ _))))); refine wpQuiet_nil ?_; intro wq hw0; obtain ⟨⟨_, hbq⟩, hw1⟩ := hw0; subst hw1; try dsimp only)
          go_wp2
          go_ret2
          exact ⟨_, by rw [hv.out]; rfl, by rw [hv2.out]; exact OwT.nil_ _ _, bl_trans (by go_grown) hbq⟩
        · have hv := Lib.hid (show tmOk 3 hx hy = true by rw [tmOk, show two (Int.toNat 3) - 1 = 7 from rfl, c3, c2]; rfl)
          have hv2 := Lib.hid (show tmL 3 hx hy = miss 3 0 0 hx hy by rw [tmL, hv.out]; rfl)
          have i2 := inB_true.1 c2
          have i3 := inB_true.1 c3
          have HP := Lib.hid P
          go_enter Try.func38, Try.ntmps38
          go_wp2_with fail
          (refine wp_region_quiet_bel (by kernel_rfl) (by kernel_rfl) ?_; (repeat (first | go_big_quiet_step ((go_at_call 89; exact Calls.bel_of_same (within_any _ _ _ _))) | quiet_step ((go_at_call 89; exact Calls.bel_of_same (within_any _ _ _ _))))); refine wpQuiet_nil ?_; intro wq hw0; obtain ⟨⟨_, hbq⟩, hw1⟩ := hw0; subst hw1; try dsimp only)
          have hb2 := bl_trans (w := w) (by go_grown) hbq
          have P2 := HP.out.bel hbq
          have P2c := P2.c2
          go_wp2_with fail
          go_region_held3 (fun w' => w'.cell? ⟨w.heap.size, 0, none⟩ = some (.int .i64 hx) ∧ w'.cell? ⟨w.heap.size, 1, none⟩ = some (.int .i64 hy)) (go_keep)
            (first | (go_at_call 118; refine (missing_i 3 0 0 8 hx hy _ rfl (by decide) (by decide) (by decide) (by decide) (by decide) (by omega) (by omega) (by omega) (by omega)).mono ?_; rintro e w2 ⟨v2, rfl, o2, hb3⟩; have hb4 := bl_trans (bl_trans hb2 (by go_grown)) hb3; have P3 := (P2.bel (bl_trans (by go_grown) hb3)).c2; have O2 := Lib.hid (o2.mono (bl_trans hb2 (w1 := _) (by go_grown)).size); obtain ⟨⟨A2, c2', rfl⟩, _⟩ := id o2; clear o2 hb3))
          go_wp2_with fail
          go_ret2
          exact ⟨_, by rw [hv.out]; rfl, by rw [hv2.out]; exact O2.out, hb4⟩
end Go.Proofs.Ytdcjhfmkkcakhaa

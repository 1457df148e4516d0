/-
  The straight tiles over a cell (a plain model), and the contracts of CountLong (both): what each returns, as a function of its arguments; nothing that was there is written; no condition.
-/
import Derived.Test.YtdcjhfmkkcakhaaCovM
import Derived.Test.YtdcjhfmkkcakhaaRect
import Derived.Deep.CutRange
import Derived.Deep.CutBlock
import Derived.Deep.DeepMust
namespace Go.Proofs.Ytdcjhfmkkcakhaa
open Go.ChangeShapes Go.WideShapes Go.ChangeAt Go.RowKit Go.Deep
set_option linter.unusedVariables false

def longOk (a b c : Int) : Bool := inB a 1 6 && inB b 1 6 && inB c 2 4
theorem longOk_iff {a b c : Int} : longOk a b c = true ↔ (1 ≤ a ∧ a ≤ 6) ∧ (1 ≤ b ∧ b ≤ 6) ∧ 2 ≤ c ∧ c ≤ 4 := by simp [longOk, inB, and_assoc]
theorem LongOk_i (a b c : Int) (w : World) : Calls Try.prog 46 #[.int .i64 a, .int .i64 b, .int .i64 c] w fun e w' => e = .returned (.bool (longOk a b c)) ∧ w = w' := by
  go_enter Try.func46, Try.ntmps46
  go_wp2_with (go_at_call 89; refine (within_any _ _ _ _).mono ?_; rintro e wn ⟨rfl, rfl⟩)
  all_goals go_ret
  all_goals exact ⟨ret_bool (by simp_all [longOk]), rfl⟩
theorem LongOk_s (a b c : Int) (w : World) : Calls Try.prog 103 #[.int .i64 a, .int .i64 b, .int .i64 c] w fun e w' => e = .returned (.bool (longOk a b c)) ∧ w = w' := by
  go_enter Try.func103, Try.ntmps103
  go_wp2_with (go_at_call 128; refine (l01In_any _ _ _ _).mono ?_; rintro e wn ⟨rfl, rfl⟩)
  all_goals go_ret
  all_goals exact ⟨ret_bool (by simp_all [longOk]), rfl⟩
def rowL (x y : Int) (n : Nat) : List Cl := (List.range n).map fun (j : Nat) => (x + (j : Int), y)
def colL (x y : Int) (n : Nat) : List Cl := (List.range n).map fun (j : Nat) => (x, y + (j : Int))
theorem rowL_succ (x y : Int) (n : Nat) : rowL x y (n + 1) = rowL x y n ++ [(x + (n : Int), y)] := by simp [rowL, List.range_succ]
theorem colL_succ (x y : Int) (n : Nat) : colL x y (n + 1) = colL x y n ++ [(x, y + (n : Int))] := by simp [colL, List.range_succ]
theorem rowL_len (x y : Int) (n : Nat) : (rowL x y n).length = n := by simp [rowL]
theorem colL_len (x y : Int) (n : Nat) : (colL x y n).length = n := by simp [colL]
theorem rowL_get (x y : Int) {n j : Nat} (h : j < n) : (rowL x y n)[j]? = some (x + (j : Int), y) := by simp [rowL, h]
theorem colL_get (x y : Int) {n j : Nat} (h : j < n) : (colL x y n)[j]? = some (x, y + (j : Int)) := by simp [colL, h]
theorem rowL_ok {x y : Int} {k : Nat} (hk : 1 ≤ k) (h0 : cellOk x y = true) (h1 : cellOk (x + (k : Int) - 1) y = true) : ∀ c ∈ rowL x y k, cellOk c.1 c.2 = true := fun c hc => by
  obtain ⟨j, hj, rfl⟩ := List.mem_map.1 hc
  rw [List.mem_range] at hj
  have := cellOk_iff.1 h0
  have := cellOk_iff.1 h1
  apply cellOk_iff.2
  dsimp only
  omega
theorem colL_ok {x y : Int} {k : Nat} (hk : 1 ≤ k) (h0 : cellOk x y = true) (h1 : cellOk x (y + (k : Int) - 1) = true) : ∀ c ∈ colL x y k, cellOk c.1 c.2 = true := fun c hc => by
  obtain ⟨j, hj, rfl⟩ := List.mem_map.1 hc
  rw [List.mem_range] at hj
  have := cellOk_iff.1 h0
  have := cellOk_iff.1 h1
  apply cellOk_iff.2
  dsimp only
  omega
def tL1 (x y : Int) (k : Nat) : List Nat := if cellOk (x + (k : Int) - 1) y then [setL (rowL x y k)] else []
def tL2 (x y : Int) (k : Nat) : List Nat := if cellOk x (y + (k : Int) - 1) then [setL (colL x y k)] else []
def tilesL (k q : Nat) : List Nat := tL1 (cellOf q).1 (cellOf q).2 k ++ tL2 (cellOf q).1 (cellOf q).2 k
theorem tL1_len (x y : Int) (k : Nat) : (tL1 x y k).length ≤ 1 := by unfold tL1; split <;> simp
theorem tL2_len (x y : Int) (k : Nat) : (tL2 x y k).length ≤ 1 := by unfold tL2; split <;> simp
theorem setL_mem_ne {l : List Cl} {c : Cl} (h : c ∈ l) : setL l ≠ 0 := by
  intro e
  have := setL_bit l (idxN c)
  rw [e] at this
  simp at this
  exact this c.1 c.2 h rfl
theorem tilesL_ne {k : Nat} (hk : 1 ≤ k) (q : Nat) : ∀ o ∈ tilesL k q, o ≠ 0 := fun o ho => by
  unfold tilesL tL1 tL2 at ho
  rcases List.mem_append.1 ho with ho | ho
  · split at ho
    · simp at ho; rw [ho]; exact setL_mem_ne (List.mem_of_getElem? (rowL_get _ _ (show 0 < k by omega)))
    · simp at ho
  · split at ho
    · simp at ho; rw [ho]; exact setL_mem_ne (List.mem_of_getElem? (colL_get _ _ (show 0 < k by omega)))
    · simp at ho
theorem OwC.far_ {B : Nat} {w w1 : World} {v : Value} {l : List (Int × Int)} {row : Option Nat} (h : OwC B w v l) (hg : w.grownBy w1 row) (hd : ∀ k, v.ownBlock = some k → row ≠ some k) : OwC B w1 v l :=
  ⟨h.1, ownsRow_loc h.2.1 (fun k hk hlt => hg.block k hlt (fun e => hd k hk e.symm)), h.2.2⟩
def tLt (x y : Int) (k : Nat) : Nat → List Nat
  | 0 => []
  | 1 => tL1 x y k
  | _ => tL1 x y k ++ tL2 x y k
theorem tLt_len (x y : Int) (k i : Nat) : (tLt x y k i).length ≤ 2 := by
  have h1 := tL1_len x y k
  have h2 := tL2_len x y k
  unfold tLt
  split <;> simp <;> omega
theorem apart_new {B : Nat} {w : World} {v u v' : Value} {l : List (Int × Int)} (h : v'.ownBlock = v.ownBlock ∨ v'.ownBlock = some (w.heap.size + 1)) (hd : ∀ b, v.ownBlock = some b → u.ownBlock ≠ some b) (hu : OwC B w u l) : ∀ b, v'.ownBlock = some b → u.ownBlock ≠ some b := fun b hb e => by
  rcases h with h | h
  · exact hd b (h ▸ hb) e
  · rw [h] at hb; injection hb with hb; have := (hu.2.1.lt b e).2; omega
theorem apart_new' {B : Nat} {w : World} {v u u' : Value} {l : List (Int × Int)} (h : u'.ownBlock = u.ownBlock ∨ u'.ownBlock = some (w.heap.size + 1)) (hd : ∀ b, v.ownBlock = some b → u.ownBlock ≠ some b) (hv : OwC B w v l) : ∀ b, v.ownBlock = some b → u'.ownBlock ≠ some b := fun b hb e => by
  rcases h with h | h
  · exact hd b hb (h ▸ e)
  · rw [h] at e; injection e with e; have := (hv.2.1.lt b hb).2; omega
set_option maxRecDepth 100000 in
set_option maxHeartbeats 4000000 in
theorem tilesL_any (w0 : World) (K k : Nat) (hk2 : 2 ≤ k) (hk4 : k ≤ 4) (hK : Blk w0 K 3 [.int .i64 (k : Int)]) (q : Nat) (w : World) (hq : q < 64) (hb0 : Below w0.heap.size w0 w) :
    Calls Try.prog 127 #[.agg #[.int .i64 (cellOf q).1, .int .i64 (cellOf q).2], .pointer (some ⟨K, 0, none⟩)] w fun e w' => ∃ v, e = .returned v ∧ OwU w.heap.size w' v (tilesL k q) ∧ Below w.heap.size w w' := by
  have ht : tilesL k q = tL1 (cellOf q).1 (cellOf q).2 k ++ tL2 (cellOf q).1 (cellOf q).2 k := rfl
  have hok0 := cellOf_ok q hq
  have hrg := cellOk_iff.1 hok0
  obtain ⟨x, hx⟩ : ∃ x, x = (cellOf q).1 := ⟨_, rfl⟩
  obtain ⟨y, hy⟩ : ∃ y, y = (cellOf q).2 := ⟨_, rfl⟩
  rw [← hx, ← hy] at ht hrg hok0 ⊢
  have HT := Lib.hid ht
  have HK := Lib.hid (hK.bel hb0)
  have HOK0 := Lib.hid hok0
  have P := ((Blk.new w 35 [.int .i64 x, .int .i64 y]).alloc (.cells #[] 35)).alloc (.cells #[] 35)
  have hB := bl_alloc (bl_alloc (bl_alloc (Below.refl w.heap.size w) (.cells #[.int .i64 x, .int .i64 y] 35)) (.cells #[] 35)) (.cells #[] 35)
  have O1 := Lib.hid ((OwC.new_ (B := w.heap.size + 1) (w := w.alloc (.cells #[.int .i64 x, .int .i64 y] 35)) (by simp)).bel (bl_alloc (Below.refl _ _) (.cells #[] 35)))
  have O2 := Lib.hid (OwC.new_ (B := w.heap.size + 1) (w := (w.alloc (.cells #[.int .i64 x, .int .i64 y] 35)).alloc (.cells #[] 35)) (by simp))
  rw [World.size_alloc] at O1
  rw [World.size_alloc, World.size_alloc] at O2
  have hKc := (HK.out.bel hB).c1
  clear ht hx hy hK hb0 hok0
  go_enter Try.func127, Try.ntmps127
  go_wp2
  clear hKc
  go_loopw [4, 5, 13] (fun v u i wr => ∃ j : Nat, j ≤ k ∧ i = .int .i64 j ∧ OwC (w.heap.size + 1) wr v (rowL x y j) ∧ OwC (w.heap.size + 1) wr u (colL x y j) ∧ Hid (∀ b, v.ownBlock = some b → u.ownBlock ≠ some b) ∧ Blk wr w.heap.size 35 [.int .i64 x, .int .i64 y] ∧ Below w.heap.size w wr) (fun _ _ i _ => k - (intOf i).toNat)
  case atStart => exact ⟨0, by omega, rfl, O1.out, O2.out, Lib.hid (by intro b hb; simp [Value.ownBlock] at hb ⊢; omega), P, hB⟩
  case round =>
    obtain ⟨j, hj, rfl, o1, o2, HD, P1, hB1⟩ := hrel
    clear P hB O1 O2
    by_cases hjk : j < k
    · have dj : decide (j < k) = true := decide_eq_true hjk
      have g1 : I64 (x + (j : Int)) := ⟨by omega, by omega⟩
      have g2 : I64 (y + (j : Int)) := ⟨by omega, by omega⟩
      have g3 : I64 x := ⟨by omega, by omega⟩
      have g4 : I64 y := ⟨by omega, by omega⟩
      have hl1 : (rowL x y j).length ≤ 1048576 := by rw [rowL_len]; omega
      have hl2 : (colL x y j).length ≤ 1048576 := by rw [colL_len]; omega
      have HR1 := Lib.hid (rowL_succ x y j)
      have HR2 := Lib.hid (colL_succ x y j)
      have HO1 := Lib.hid o1
      have HO2 := Lib.hid o2
      have hPl : w.heap.size + 1 ≤ wr.heap.size := P1.lt
      have Pc := P1.c2
      have HP := Lib.hid P1
      have HB := Lib.hid hB1
      clear o1 o2 P1 hB1
      go_wp2_with (first
        | (at_builtin; refine wpList_atC rfl (.tmp 16) (.tmp 24) rfl (w.heap.size + 1) u4 (rowL x y j) (x + (j : Int)) y rfl rfl HO1.out hPl hl1 g1 g4 ?_; intro v' w1 p1 b1 gr1 at1 sz1; go_must (have P2 := HP.out.below (b1 _ (Below.refl _ _)) (Nat.lt_succ_self _); have Pc2 := P2.c2; have HP2 := Lib.hid P2; have HQ2 := Lib.hid (HO2.out.far_ gr1 (fun b hb e => HD.out b e hb)); have HQ1 := Lib.hid p1; have HD2 := Lib.hid (apart_new at1 HD.out HO2.out); have HB2 := Lib.hid (HB.out.trans ((b1 _ (Below.refl _ _)).mono (Nat.le_succ _))); have hPl2 : w.heap.size + 1 ≤ w1.heap.size := P2.lt; clear P2 p1 b1 gr1 at1 Pc))
        | (at_builtin; refine wpList_atC rfl (.tmp 26) (.tmp 34) rfl (w.heap.size + 1) u5 (colL x y j) x (y + (j : Int)) rfl rfl HQ2.out hPl2 hl2 g3 g2 ?_; intro v2 w2 p2 b2 gr2 at2 sz2; go_must (have HP3 := Lib.hid (HP2.out.below (b2 _ (Below.refl _ _)) (Nat.lt_succ_self _)); have HS1 := Lib.hid (HQ1.out.far_ gr2 (fun b hb e => HD2.out b hb e)); have HS2 := Lib.hid p2; have HB3 := Lib.hid (HB2.out.trans ((b2 _ (Below.refl _ _)).mono (Nat.le_succ _))); have HD3 := Lib.hid (apart_new' at2 HD2.out HQ1.out); clear p2 b2 gr2 at2)))
      go_roundw
      case rel => exact ⟨j + 1, by omega, by go_num, by rw [HR1.out]; exact HS1.out, by rw [HR2.out]; exact HS2.out, HD3, HP3.out, HB3.out⟩
      case measure => simp [intOf]; omega
    · obtain rfl : j = k := by omega
      have dj : decide (j < j) = false := decide_eq_false (by omega)
      obtain ⟨A1, c1, rfl⟩ := o1.form
      obtain ⟨A2, c2, rfl⟩ := o2.form
      rw [rowL_len] at o1 ⊢
      rw [colL_len] at o2 ⊢
      obtain ⟨wl, rfl⟩ : ∃ wl : World, wl = wr := ⟨_, rfl⟩
      have R1 := Lib.hid o1.rd
      have R2 := Lib.hid o2.rd
      have HBL := Lib.hid hB1
      have hlz := hB1.size
      have HKL := Lib.hid (HK.out.bel hB1)
      clear o1 o2 HD P1 hB1
      have D0 := Blk.new2 wl (.cells #[] 112) 28 [.slice A1 j c1, .slice A2 j c2]
      have U0 := Lib.hid ((OwU.new_ (B := wl.heap.size) (w := wl) (Nat.le_refl _)).bel (bl_alloc (Below.refl _ _) (.cells #[.slice A1 j c1, .slice A2 j c2] 28)))
      have hB := bl_alloc (bl_alloc (Below.refl wl.heap.size wl) (.cells #[] 112)) (.cells #[.slice A1 j c1, .slice A2 j c2] 28)
      go_wp2_with fail
      go_loopw [7, 42] (fun v q wr => ∃ i : Nat, i ≤ 2 ∧ q = .int .i64 i ∧ OwU wl.heap.size wr v (tLt x y j i) ∧ Blk wr (wl.heap.size + 1) 28 [.slice A1 j c1, .slice A2 j c2] ∧ Below wl.heap.size wl wr) (fun _ q _ => 2 - (intOf q).toNat)
      case atStart => exact ⟨0, by omega, rfl, U0.out, D0, hB⟩
      case round =>
        obtain ⟨i, hi, rfl, own, D1, hB1⟩ := hrel
        clear D0 U0 hB
        by_cases hi2 : i < 2
        · have di : decide ((i : Int) < 2) = true := decide_eq_true (by omega)
          obtain ⟨m, hm⟩ : ∃ m, j = m + 1 := ⟨j - 1, by omega⟩
          obtain ⟨A9, c9, l9, a9, b9, hD, hlen, hR, hlast, hok, hts, hI⟩ : ∃ (A9 : Option Addr) (c9 : Nat) (l9 : List Cl) (a9 b9 : Int), wr.cell? ⟨wl.heap.size + 1, i, none⟩ = some (.slice A9 j c9) ∧ l9.length = j ∧ RdC wr A9 l9 ∧ l9[m]? = some (a9, b9) ∧ (cellOk a9 b9 = true → ∀ c ∈ l9, cellOk c.1 c.2 = true) ∧ tLt x y j (i + 1) = tLt x y j i ++ (if cellOk a9 b9 then [setL l9] else []) ∧ (-100 ≤ a9 ∧ a9 ≤ 100) ∧ -100 ≤ b9 ∧ b9 ≤ 100 := by
            have hc2 := D1.c2
            rcases (show i = 0 ∨ i = 1 by omega) with rfl | rfl
            · refine ⟨A1, c1, rowL x y j, x + (j : Int) - 1, y, hc2.1, rowL_len _ _ _, R1.out.below hB1, ?_, fun h => rowL_ok (by omega) HOK0.out h, by simp [tLt, tL1], by omega, by omega⟩
              rw [rowL_get x y (show m < j by omega)]
              congr 2; omega
            · refine ⟨A2, c2, colL x y j, x, y + (j : Int) - 1, hc2.2, colL_len _ _ _, R2.out.below hB1, ?_, fun h => colL_ok (by omega) HOK0.out h, by simp [tLt, tL2], by omega, by omega⟩
              rw [colL_get x y (show m < j by omega)]
              congr 2; omega
          have HSO := Lib.hid (show ∀ W, RdC W A9 l9 → (∀ c ∈ l9, cellOk c.1 c.2 = true) → Calls Try.prog 122 #[.slice A9 j c9] W fun e w' => e = .returned (.int .u64 (setL l9)) ∧ Below W.heap.size W w' from fun W h1 h2 => by
            have := setOf_any A9 c9 l9 W (by omega) h1 h2
            rwa [hlen] at this)
          have hRR := hR
          obtain ⟨b8, off8, p8, q8, hA8, hb8, hv8, _, _, _, z0, z1⟩ := hR.at_ (k := m) (by omega)
          rw [hlast] at hv8
          injection hv8 with hv8
          injection hv8 with h8 h9
          subst h8
          subst h9
          subst hA8
          have hwj : IntKind.i64.wrap ((j : Int) - 1) = (m : Int) := by rw [show (j : Int) - 1 = (m : Int) by omega]; exact IntWalk.i64_in _ (by omega)
          have hm0 : (0 : Int) ≤ (m : Int) := by omega
          have hm1 : (m : Int) < (j : Int) := by omega
          have hm2 : m < j := by omega
          have HOKL := Lib.hid hok
          have HTS := Lib.hid hts
          have HRR := Lib.hid hRR
          have HOW := Lib.hid own
          have HD1 := Lib.hid D1
          have hKc := (HKL.out.bel hB1).c1
          have hi0 : (0 : Int) ≤ (i : Int) := by omega
          have hi1 : (i : Int) < 2 := by omega
          have hll : (tLt x y j i).length ≤ 1048576 := by have := tLt_len x y j i; omega
          have hB := hB1
          clear hm hlen hR hRR hlast hok hts own D1 hB1
          cases hco : cellOk a9 b9
          · have HCO := Lib.hid hco
            have HTS2 := Lib.hid (show tLt x y j (i + 1) = tLt x y j i by rw [HTS.out, hco]; simp)
            clear hco
            go_wp2_with (go_at_call 102; refine (CellOk_i a9 b9 _).mono ?_; rintro e wn ⟨rfl, hbn⟩; have hSz := bl_sz (bl_trans hB (by go_grown)) hbn; replace hB := bl_trans (bl_trans hB (by go_grown)) hbn; rw [HCO.out]; replace HOW := Lib.hid (HOW.out.bel (bl_trans (by go_grown) hbn)); replace HD1 := Lib.hid (HD1.out.bel (bl_trans (by go_grown) hbn)); clear hbn)
            go_roundw
            case rel => exact ⟨i + 1, by omega, by go_num, by rw [HTS2.out]; exact HOW.out, HD1.out, hB⟩
            case measure => simp [intOf]; omega
          · have HCO := Lib.hid hco
            have hokl := HOKL.out hco
            have HOL := Lib.hid hokl
            obtain ⟨o, ho⟩ : ∃ o, o = setL l9 := ⟨_, rfl⟩
            have hol : o < 18446744073709551616 := by rw [ho]; exact setL_lt hokl
            have HSO2 := Lib.hid ho.symm
            have HTS2 := Lib.hid (show tLt x y j (i + 1) = tLt x y j i ++ [o] by rw [HTS.out, hco, ho]; simp)
            clear hco hokl ho
            go_wp2_with (first | (go_at_call 102; refine (CellOk_i a9 b9 _).mono ?_; rintro e wn ⟨rfl, hbn⟩; have hSz := bl_sz (bl_trans hB (by go_grown)) hbn; replace hB := bl_trans (bl_trans hB (by go_grown)) hbn; rw [HCO.out]; replace HOW := Lib.hid (HOW.out.bel (bl_trans (by go_grown) hbn)); replace HD1 := Lib.hid (HD1.out.bel (bl_trans (by go_grown) hbn)); replace HRR := Lib.hid (HRR.out.below (bl_trans (by go_grown) hbn)); clear hbn) | (go_at_call 122; refine (HSO.out _ HRR.out HOL.out).mono ?_; rintro e wn ⟨rfl, hbn⟩; have hSz := bl_sz (bl_trans hB (by go_grown)) hbn; replace hB := bl_trans (bl_trans hB (by go_grown)) hbn; rw [HSO2.out]; replace HOW := Lib.hid (HOW.out.bel (bl_trans (by go_grown) hbn)); replace HD1 := Lib.hid (HD1.out.bel (bl_trans (by go_grown) hbn)); clear hbn) | (at_builtin; refine wpList_appU rfl (.tmp 52) (.tmp 55) rfl wl.heap.size _ (tLt x y j i) o rfl rfl HOW.out hB.size hll hol ?_; intro v1 w1 o1 b1 g1; go_must (have HD4 := Lib.hid ((HD1.out.alloc (.cells #[.int .u64 (o : Int)] 112)).keepT g1 (by intro k hk; obtain ⟨cur, fr, h⟩ := own_typ HOW.out.2.1 k hk; exact ⟨cur, fr, (Below.heap_alloc _ _ k (Array.getElem?_eq_some_iff.1 h).1).trans h⟩) (by decide)); have O4 := Lib.hid o1; have HB4 := Lib.hid (b1 _ hB); clear o1 b1 g1)))
            go_roundw
            case rel => exact ⟨i + 1, by omega, by go_num, by rw [HTS2.out]; exact O4.out, HD4.out, HB4.out⟩
            case measure => simp [intOf]; omega
        · obtain rfl : i = 2 := by omega
          have di : decide (((2 : Nat) : Int) < 2) = false := by decide
          have HFB := Lib.hid (HBL.out.trans (hB1.mono hlz))
          go_wp2_with fail
          go_ret
          exact ⟨_, rfl, by rw [HT.out]; exact own.mono hlz, HFB.out⟩
theorem tilesL_ok (w0 : World) (K k : Nat) (hk2 : 2 ≤ k) (hk4 : k ≤ 4) (hK : Blk w0 K 3 [.int .i64 (k : Int)]) : TilesOk 127 #[.pointer (some ⟨K, 0, none⟩)] (tilesL k) w0 :=
  ⟨enters_ Try.func127 (by kernel_rfl) rfl, fun i w hi hb => tilesL_any w0 K k hk2 hk4 hK i w hi hb, fun i _ => ⟨by have h1 := tL1_len (cellOf i).1 (cellOf i).2 k; have h2 := tL2_len (cellOf i).1 (cellOf i).2 k; unfold tilesL; rw [List.length_append]; omega, tilesL_ne (by omega) i⟩⟩
def countLong (a b c : Int) : Int := if longOk a b c && decide (a * b ≤ 24) then wrap64 (covs (tilesL c.toNat) 64 (regSet (rectR a b))) else 0
theorem countLong_no1 {a b c : Int} (h : longOk a b c = false) : countLong a b c = 0 := by simp [countLong, h]
theorem countLong_no2 {a b : Int} (c : Int) (h : ¬ a * b ≤ 24) : countLong a b c = 0 := by simp [countLong, h]
theorem countLong_yes {a b : Int} {k : Nat} (h1 : longOk a b (k : Int) = true) (h : a * b ≤ 24) : countLong a b (k : Int) = wrap64 (covs (tilesL k) 64 (regSet (rectR a b))) := by simp [countLong, h, h1]
theorem mul6 {a b : Int} (h1 : 1 ≤ a) (h2 : a ≤ 6) (h3 : 1 ≤ b) (h4 : b ≤ 6) : 1 ≤ a * b ∧ a * b ≤ 36 := by
  have ha : a = 1 ∨ a = 2 ∨ a = 3 ∨ a = 4 ∨ a = 5 ∨ a = 6 := by omega
  rcases ha with rfl | rfl | rfl | rfl | rfl | rfl <;> omega
set_option maxHeartbeats 1000000 in
theorem CountLong_i (a b c : Int) (w : World) :
    Calls Try.prog 44 #[.int .i64 a, .int .i64 b, .int .i64 c] w fun e w' => e = .returned (.int .i64 (countLong a b c)) ∧ Below w.heap.size w w' := by
  have hB := bl_alloc (Below.refl w.heap.size w) (.cells #[.int .i64 c] 3)
  have P := Blk.new w 3 [.int .i64 c]
  have Pc := P.c1
  cases h : longOk a b c
  · have H := Lib.hid (countLong_no1 h)
    have H1 := Lib.hid h
    clear h
    go_enter Try.func44, Try.ntmps44
    go_wp2_with (go_at_call 46; refine (LongOk_i a b c _).mono ?_; rintro e wn ⟨rfl, rfl⟩; rw [H1.out])
    go_ret
    exact ⟨ret_int H.out.symm, (by first | (go_grown; done) | exact bl_trans hB (by go_grown))⟩
  · have hr := longOk_iff.1 h
    obtain ⟨k, rfl⟩ : ∃ k : Nat, c = k := ⟨c.toNat, by omega⟩
    have hm := mul6 hr.1.1 hr.1.2 hr.2.1.1 hr.2.1.2
    obtain ⟨p, hp⟩ : ∃ p, p = a * b := ⟨_, rfl⟩
    have H1 := Lib.hid h
    have hk2 : 2 ≤ k := by omega
    have hk4 : k ≤ 4 := by omega
    rw [← hp] at hm
    have hp2 : a * b = p := hp.symm
    have hw0 : IntKind.i64.wrap p = p := IntWalk.i64_in _ (by omega)
    by_cases h24 : p ≤ 24
    · have H := Lib.hid (countLong_yes h (by rw [← hp]; exact h24))
      have d1 : decide (24 < p) = false := decide_eq_false (by omega)
      have hok := rectR_ok a b
      have hRl := regSet_lt hok
      have HOK := Lib.hid hok
      obtain ⟨rs, hrs⟩ : ∃ rs, rs = rectR a b := ⟨_, rfl⟩
      rw [← hrs] at hRl HOK H
      have HRS := Lib.hid hrs
      clear h hp hok hrs
      go_enter Try.func44, Try.ntmps44
      go_wp2_with (first | (go_at_call 46; refine (LongOk_i a b k _).mono ?_; rintro e wn ⟨rfl, rfl⟩; rw [H1.out]) | (go_at_call 25; refine (Rectangle_i a b _).mono ?_; rintro e wr ⟨A, c, rfl, o1, hbn⟩; go_must (replace hB := bl_trans (bl_trans hB (by go_grown)) hbn; replace P := P.bel hbn; replace Pc := P.c1; rw [← HRS.out] at o1 ⊢; have RR := Lib.hid o1.rd; clear o1)) | (go_at_call 121; refine (rset_any A c rs _ HOK.out (RR.out.below (by go_grown))).mono ?_; rintro e wz ⟨rfl, hbn⟩; have hSz := bl_sz (bl_trans hB (by go_grown)) hbn; replace hB := bl_trans (bl_trans hB (by go_grown)) hbn; replace P := P.bel (bl_trans (by go_grown) hbn); replace Pc := P.c1; clear hbn) | (go_at_call 124; refine (coverings_any 127 #[.pointer (some ⟨w.heap.size, 0, none⟩)] (tilesL k) wz (tilesL_ok wz w.heap.size k hk2 hk4 P) 64 (regSet rs) _ (by go_grown) hRl (card_le _)).mono ?_; rintro e wn ⟨rfl, hbn⟩; have hSz := bl_sz (bl_trans hB (by go_grown)) hbn; replace hB := bl_trans (bl_trans hB (by go_grown)) hbn; replace P := P.bel (bl_trans (by go_grown) hbn); replace Pc := P.c1; clear hbn))
      go_ret
      exact ⟨ret_int H.out.symm, (by first | (go_grown; done) | exact bl_trans hB (by go_grown))⟩
    · have H := Lib.hid (countLong_no2 (a := a) (b := b) (k : Int) (by rw [← hp]; exact h24))
      have d1 : decide (24 < p) = true := decide_eq_true (by omega)
      clear h hp
      go_enter Try.func44, Try.ntmps44
      go_wp2_with (go_at_call 46; refine (LongOk_i a b k _).mono ?_; rintro e wn ⟨rfl, rfl⟩; rw [H1.out])
      go_ret
      exact ⟨ret_int H.out.symm, (by first | (go_grown; done) | exact bl_trans hB (by go_grown))⟩
/-! ### the reference's numbering of cells -/
structure Corr (W H U s : Nat) : Prop where
  ul : ∀ j, U.testBit j = true → j < W * H
  sl : s < 18446744073709551616
  bit : ∀ i, s.testBit i = (decide (i % 8 < W) && decide (i / 8 < H) && !U.testBit (i / 8 * W + i % 8))
def acr (a : Nat) : Nat → Nat
  | 0 => 0
  | j + 1 => acr a j ||| 2 ^ (a + j)
def dwn (a W : Nat) : Nat → Nat
  | 0 => 0
  | j + 1 => dwn a W j ||| 2 ^ (a + j * W)
theorem acr_bit (a i : Nat) : ∀ j, (acr a j).testBit i = decide (a ≤ i ∧ i < a + j) := by
  intro j
  induction j with
  | zero => simp [acr]
  | succ j ih =>
    rw [acr, Nat.testBit_or, ih, Nat.testBit_two_pow, Bool.eq_iff_iff]
    simp only [Bool.or_eq_true, decide_eq_true_eq]
    omega
theorem dwn_bit (a W i : Nat) : ∀ j, (dwn a W j).testBit i = decide (∃ t < j, a + t * W = i) := by
  intro j
  induction j with
  | zero => simp [dwn]
  | succ j ih =>
    rw [dwn, Nat.testBit_or, ih, Nat.testBit_two_pow, Bool.eq_iff_iff]
    simp only [Bool.or_eq_true, decide_eq_true_eq]
    constructor
    · rintro (⟨t, ht, e⟩ | e)
      · exact ⟨t, by omega, e⟩
      · exact ⟨j, by omega, e⟩
    · rintro ⟨t, ht, e⟩
      by_cases h : t = j
      · subst h; exact .inr e
      · exact .inl ⟨t, by omega, e⟩
theorem acr_lt {a : Nat} (ha : a ≤ 24) : ∀ j ≤ 4, acr a j < 2 ^ 60
  | 0, _ => by show 0 < 2 ^ 60; decide
  | j + 1, hj => by
    rw [acr]
    exact Nat.or_lt_two_pow (acr_lt ha j (by omega)) (Nat.pow_lt_pow_right (by decide) (by omega))
theorem dwn_lt {a W : Nat} (ha : a ≤ 24) (hW : W ≤ 6) : ∀ j ≤ 4, dwn a W j < 2 ^ 60
  | 0, _ => by show 0 < 2 ^ 60; decide
  | j + 1, hj => by
    rw [dwn]
    have : j * W ≤ 3 * 6 := Nat.mul_le_mul (by omega) hW
    exact Nat.or_lt_two_pow (dwn_lt ha hW j (by omega)) (Nat.pow_lt_pow_right (by decide) (by omega))
theorem i64_or_nat (a b : Nat) (ha : a < 9223372036854775808) (hb : b < 9223372036854775808) : bits .or .i64 (a : Int) (b : Int) = ((a ||| b : Nat) : Int) := by
  have hx : a ||| b < 2 ^ 63 := Nat.or_lt_two_pow (by omega) (by omega)
  show IntKind.i64.wrap ((BitVec.ofInt 64 (a : Int) ||| BitVec.ofInt 64 (b : Int)).toNat : Int) = _
  rw [BitVec.toNat_or, ofInt_i64 a ha, ofInt_i64 b hb, IntKind.wrap_i64]
  omega
/-! ### the two counts go together -/
theorem rowL_bit (x y k i : Nat) : (setL (rowL (x : Int) (y : Int) k)).testBit i = decide (8 * y + x ≤ i ∧ i < 8 * y + x + k) := by
  rw [setL_bit, Bool.eq_iff_iff, decide_eq_true_eq, decide_eq_true_eq]
  constructor
  · rintro ⟨c, hc, rfl⟩
    obtain ⟨j, hj, rfl⟩ := List.mem_map.1 hc
    rw [List.mem_range] at hj
    unfold idxN; dsimp only; omega
  · intro h
    refine ⟨((x : Int) + ((i - 8 * y - x : Nat) : Int), (y : Int)), List.mem_map.2 ⟨i - 8 * y - x, List.mem_range.2 (by omega), rfl⟩, ?_⟩
    unfold idxN; dsimp only; omega
theorem colL_bit (x y k i : Nat) : (setL (colL (x : Int) (y : Int) k)).testBit i = decide (∃ t < k, 8 * (y + t) + x = i) := by
  rw [setL_bit, Bool.eq_iff_iff, decide_eq_true_eq, decide_eq_true_eq]
  constructor
  · rintro ⟨c, hc, rfl⟩
    obtain ⟨j, hj, rfl⟩ := List.mem_map.1 hc
    rw [List.mem_range] at hj
    exact ⟨j, hj, by unfold idxN; dsimp only; omega⟩
  · rintro ⟨t, ht, rfl⟩
    refine ⟨((x : Int), (y : Int) + (t : Int)), List.mem_map.2 ⟨t, List.mem_range.2 ht, rfl⟩, ?_⟩
    unfold idxN; dsimp only; omega
theorem mul_lt_ {q p W : Nat} (h : q < p) : q * W + W ≤ p * W := by have := Nat.mul_le_mul_right W (show q + 1 ≤ p from h); rwa [Nat.succ_mul] at this
theorem pos_inj {q r p x W : Nat} (hr : r < W) (hx : x < W) : q * W + r = p * W + x ↔ q = p ∧ r = x := by
  constructor
  · intro h
    rcases Nat.lt_trichotomy q p with e | e | e
    · have := mul_lt_ (W := W) e; omega
    · subst e; omega
    · have := mul_lt_ (W := W) e; omega
  · rintro ⟨rfl, rfl⟩; rfl
section
variable {W H U s a x y : Nat}
theorem Corr.zero (h : Corr W H U s) (hU : ∀ j < W * H, U.testBit j = true) : s = 0 := by
  apply Nat.eq_of_testBit_eq; intro i
  rw [Nat.zero_testBit, h.bit]
  by_cases h1 : i % 8 < W
  · by_cases h2 : i / 8 < H
    · have := mul_lt_ (W := W) h2
      rw [hU _ (by rw [Nat.mul_comm W H]; omega)]; simp
    · simp [h2]
  · simp [h1]
theorem Corr.first (h : Corr W H U s) (hW : W ≤ 6) (hH : H ≤ 6) (hx : x < W) (hy : y < H) (ha : a = y * W + x) (h1 : ∀ j < a, U.testBit j = true) (h2 : U.testBit a = false) : s ≠ 0 ∧ lowb s = 8 * y + x := by
  have hb : s.testBit (8 * y + x) = true := by
    rw [h.bit, show (8 * y + x) % 8 = x by omega, show (8 * y + x) / 8 = y by omega, ← ha, h2]
    simp [hx, hy]
  refine ⟨fun e => by rw [e] at hb; simp at hb, lowb_eq (by omega) hb fun j hj => ?_⟩
  rw [h.bit]
  by_cases c1 : j % 8 < W
  · have hlt : j / 8 * W + j % 8 < a := by
      rw [ha]
      by_cases e : j / 8 = y
      · rw [e]; omega
      · have := mul_lt_ (W := W) (show j / 8 < y by omega); omega
    rw [h1 _ hlt]; simp
  · simp [c1]
theorem Corr.row (h : Corr W H U s) (hW : W ≤ 6) (hH : H ≤ 6) (hx : x < W) (hy : y < H) (ha : a = y * W + x) {k : Nat} (hk : 1 ≤ k) (hk4 : k ≤ 4) :
    ((x + k ≤ W ∧ U &&& acr a k = 0) ↔ (cellOk ((x : Int) + (k : Int) - 1) (y : Int) = true ∧ s &&& setL (rowL (x : Int) (y : Int) k) = setL (rowL (x : Int) (y : Int) k))) ∧
      (x + k ≤ W → U &&& acr a k = 0 → Corr W H (U ||| acr a k) (bdiff s (setL (rowL (x : Int) (y : Int) k)))) := by
  have hfree : ∀ j < k, x + j < W → s.testBit (8 * y + x + j) = !U.testBit (a + j) := fun j hj hjW => by
    rw [h.bit, show (8 * y + x + j) % 8 = x + j by omega, show (8 * y + x + j) / 8 = y by omega, ha, Nat.add_assoc]
    simp [hjW, hy]
  have hiff : (x + k ≤ W ∧ U &&& acr a k = 0) ↔ (cellOk ((x : Int) + (k : Int) - 1) (y : Int) = true ∧ s &&& setL (rowL (x : Int) (y : Int) k) = setL (rowL (x : Int) (y : Int) k)) := by
    constructor
    · rintro ⟨h1, h2⟩
      refine ⟨cellOk_iff.2 (by omega), sub_of_bits fun i hi => ?_⟩
      rw [rowL_bit, decide_eq_true_eq] at hi
      obtain ⟨j, rfl⟩ : ∃ j, i = 8 * y + x + j := ⟨i - (8 * y + x), by omega⟩
      rw [hfree j (by omega) (by omega)]
      have hz : (U &&& acr a k).testBit (a + j) = false := by rw [h2]; simp
      rw [Nat.testBit_and, acr_bit, decide_eq_true (show a ≤ a + j ∧ a + j < a + k by omega), Bool.and_true] at hz
      rw [hz]; rfl
    · rintro ⟨h1, h2⟩
      have hc := cellOk_iff.1 h1
      have hbit : ∀ j < k, s.testBit (8 * y + x + j) = true := fun j hj => sub_bit h2 _ (by rw [rowL_bit, decide_eq_true_eq]; omega)
      have hWk : x + k ≤ W := by
        have := hbit (k - 1) (by omega)
        rw [h.bit, Bool.and_eq_true, Bool.and_eq_true, decide_eq_true_eq] at this
        have := this.1.1
        omega
      refine ⟨hWk, ?_⟩
      apply Nat.eq_of_testBit_eq; intro i
      rw [Nat.zero_testBit, Nat.testBit_and, acr_bit]
      by_cases hi : a ≤ i ∧ i < a + k
      · obtain ⟨j, rfl⟩ : ∃ j, i = a + j := ⟨i - a, by omega⟩
        have h3 := hbit j (by omega)
        rw [hfree j (by omega) (by omega)] at h3
        have : U.testBit (a + j) = false := by simpa using h3
        rw [this]; rfl
      · rw [decide_eq_false hi]; simp
  refine ⟨hiff, fun h1 h2 => ?_⟩
  have hol : setL (rowL (x : Int) (y : Int) k) < 18446744073709551616 := by
    refine setL_lt (rowL_ok hk (cellOk_iff.2 (by omega)) (hiff.1 ⟨h1, h2⟩).1)
  refine ⟨fun j hj => ?_, bdiff_lt h.sl, fun i => ?_⟩
  · rw [Nat.testBit_or, Bool.or_eq_true] at hj
    rcases hj with hj | hj
    · exact h.ul j hj
    · rw [acr_bit, decide_eq_true_eq] at hj
      have := mul_lt_ (W := W) hy
      rw [Nat.mul_comm W H]; omega
  · rw [bdiff_bit h.sl hol, rowL_bit, h.bit, Nat.testBit_or, acr_bit]
    by_cases c1 : i % 8 < W
    · by_cases c2 : i / 8 < H
      · have key : (8 * y + x ≤ i ∧ i < 8 * y + x + k) ↔ (a ≤ i / 8 * W + i % 8 ∧ i / 8 * W + i % 8 < a + k) := by
          rw [ha]
          rcases Nat.lt_trichotomy (i / 8) y with e | e | e
          · have := mul_lt_ (W := W) e; omega
          · rw [e]; omega
          · have := mul_lt_ (W := W) e; omega
        by_cases c3 : (8 * y + x ≤ i ∧ i < 8 * y + x + k)
        · rw [decide_eq_true c3, decide_eq_true (key.1 c3)]; simp [c1, c2]
        · rw [decide_eq_false c3, decide_eq_false (fun e => c3 (key.2 e))]; simp [c1, c2]
      · simp [c2]
    · simp [c1]
theorem Corr.col (h : Corr W H U s) (hW : W ≤ 6) (hH : H ≤ 6) (hx : x < W) (hy : y < H) (ha : a = y * W + x) {k : Nat} (hk : 1 ≤ k) (hk4 : k ≤ 4) :
    ((y + k ≤ H ∧ U &&& dwn a W k = 0) ↔ (cellOk (x : Int) ((y : Int) + (k : Int) - 1) = true ∧ s &&& setL (colL (x : Int) (y : Int) k) = setL (colL (x : Int) (y : Int) k))) ∧
      (y + k ≤ H → U &&& dwn a W k = 0 → Corr W H (U ||| dwn a W k) (bdiff s (setL (colL (x : Int) (y : Int) k)))) := by
  have hat : ∀ t, a + t * W = (y + t) * W + x := fun t => by rw [ha, Nat.add_mul]; omega
  have hfree : ∀ t < k, y + t < H → s.testBit (8 * (y + t) + x) = !U.testBit (a + t * W) := fun t ht htH => by
    rw [h.bit, show (8 * (y + t) + x) % 8 = x by omega, show (8 * (y + t) + x) / 8 = y + t by omega, hat]
    simp [hx, htH]
  have hiff : (y + k ≤ H ∧ U &&& dwn a W k = 0) ↔ (cellOk (x : Int) ((y : Int) + (k : Int) - 1) = true ∧ s &&& setL (colL (x : Int) (y : Int) k) = setL (colL (x : Int) (y : Int) k)) := by
    constructor
    · rintro ⟨h1, h2⟩
      refine ⟨cellOk_iff.2 (by omega), sub_of_bits fun i hi => ?_⟩
      rw [colL_bit, decide_eq_true_eq] at hi
      obtain ⟨t, ht, rfl⟩ := hi
      rw [hfree t ht (by omega)]
      have hz : (U &&& dwn a W k).testBit (a + t * W) = false := by rw [h2]; simp
      rw [Nat.testBit_and, dwn_bit, decide_eq_true ⟨t, ht, rfl⟩, Bool.and_true] at hz
      rw [hz]; rfl
    · rintro ⟨h1, h2⟩
      have hbit : ∀ t < k, s.testBit (8 * (y + t) + x) = true := fun t ht => sub_bit h2 _ (by rw [colL_bit, decide_eq_true_eq]; exact ⟨t, ht, rfl⟩)
      have hHk : y + k ≤ H := by
        have := hbit (k - 1) (by omega)
        rw [h.bit, Bool.and_eq_true, Bool.and_eq_true, decide_eq_true_eq, decide_eq_true_eq] at this
        have := this.1.2
        omega
      refine ⟨hHk, ?_⟩
      apply Nat.eq_of_testBit_eq; intro i
      rw [Nat.zero_testBit, Nat.testBit_and, dwn_bit]
      by_cases hi : ∃ t < k, a + t * W = i
      · obtain ⟨t, ht, rfl⟩ := hi
        have h3 := hbit t ht
        rw [hfree t ht (by omega)] at h3
        have : U.testBit (a + t * W) = false := by simpa using h3
        rw [this]; rfl
      · rw [decide_eq_false hi]; simp
  refine ⟨hiff, fun h1 h2 => ?_⟩
  have hol : setL (colL (x : Int) (y : Int) k) < 18446744073709551616 := by
    refine setL_lt (colL_ok hk (cellOk_iff.2 (by omega)) (hiff.1 ⟨h1, h2⟩).1)
  refine ⟨fun j hj => ?_, bdiff_lt h.sl, fun i => ?_⟩
  · rw [Nat.testBit_or, Bool.or_eq_true] at hj
    rcases hj with hj | hj
    · exact h.ul j hj
    · rw [dwn_bit, decide_eq_true_eq] at hj
      obtain ⟨t, ht, rfl⟩ := hj
      have := mul_lt_ (W := W) (show y + t < H by omega)
      rw [hat, Nat.mul_comm W H]; omega
  · rw [bdiff_bit h.sl hol, colL_bit, h.bit, Nat.testBit_or, dwn_bit]
    by_cases c1 : i % 8 < W
    · by_cases c2 : i / 8 < H
      · have key : (∃ t < k, 8 * (y + t) + x = i) ↔ (∃ t < k, a + t * W = i / 8 * W + i % 8) := by
          constructor
          · rintro ⟨t, ht, e⟩
            exact ⟨t, ht, by rw [hat, pos_inj hx c1]; omega⟩
          · rintro ⟨t, ht, e⟩
            rw [hat, pos_inj hx c1] at e
            exact ⟨t, ht, by omega⟩
        by_cases c3 : (∃ t < k, 8 * (y + t) + x = i)
        · rw [decide_eq_true c3, decide_eq_true (key.1 c3)]; simp [c1, c2]
        · rw [decide_eq_false c3, decide_eq_false (fun e => c3 (key.2 e))]; simp [c1, c2]
      · simp [c2]
    · simp [c1]
end
theorem Corr.ult {W H U s : Nat} (h : Corr W H U s) (h24 : W * H ≤ 24) : U < 2 ^ 60 := by
  refine Nat.lt_pow_two_of_testBit _ fun i hi => ?_
  cases hb : U.testBit i
  · rfl
  · have := h.ul i hb; omega
theorem or_pow {p e : Nat} (hp : p < 2 ^ 60) (he : e ≤ 60) : bits BinOp.or IntKind.i64 (p : Int) (wrap64 ((2 : Int) ^ e)) = ((p ||| 2 ^ e : Nat) : Int) := by
  have h := wrap_pow_i he
  rw [wrap_i64] at h
  rw [h]
  have h1 : 2 ^ e ≤ 2 ^ 60 := Nat.pow_le_pow_right (by decide) he
  exact i64_or_nat _ _ (by omega) (by omega)
theorem cov_tL1 (G : Nat → Int) (s : Nat) (x y : Int) (k : Nat) : covSum G s (tL1 x y k) = if cellOk (x + (k : Int) - 1) y = true ∧ s &&& setL (rowL x y k) = setL (rowL x y k) then G (setL (rowL x y k)) else 0 := by
  unfold tL1
  by_cases h : cellOk (x + (k : Int) - 1) y = true
  · rw [if_pos h, covSum_one]
    by_cases h2 : s &&& setL (rowL x y k) = setL (rowL x y k)
    · rw [if_pos (by simpa using h2), if_pos ⟨h, h2⟩]
    · rw [if_neg (by simpa using h2), if_neg (fun e => h2 e.2)]
  · rw [if_neg h, if_neg (fun e => h e.1), covSum_nil]
theorem cov_tL2 (G : Nat → Int) (s : Nat) (x y : Int) (k : Nat) : covSum G s (tL2 x y k) = if cellOk x (y + (k : Int) - 1) = true ∧ s &&& setL (colL x y k) = setL (colL x y k) then G (setL (colL x y k)) else 0 := by
  unfold tL2
  by_cases h : cellOk x (y + (k : Int) - 1) = true
  · rw [if_pos h, covSum_one]
    by_cases h2 : s &&& setL (colL x y k) = setL (colL x y k)
    · rw [if_pos (by simpa using h2), if_pos ⟨h, h2⟩]
    · rw [if_neg (by simpa using h2), if_neg (fun e => h2 e.2)]
  · rw [if_neg h, if_neg (fun e => h e.1), covSum_nil]
theorem wrap_rng (a : Int) : -9223372036854775808 ≤ wrap64 a ∧ wrap64 a ≤ 9223372036854775807 := by unfold wrap64; omega
theorem sub_card {s o f : Nat} (hs : s < 18446744073709551616) (ho : o < 18446744073709551616) (h : s &&& o = o) (h0 : o ≠ 0) (hf : card s ≤ f + 1) : card (bdiff s o) ≤ f := by
  have := card_diff hs ho h
  have hc : card o ≠ 0 := fun e => h0 ((card_zero ho).1 e)
  omega
set_option maxRecDepth 100000 in
set_option maxHeartbeats 4000000 in
theorem l28Count_step (W H k nn : Nat) (hW1 : 1 ≤ W) (hW : W ≤ 6) (hH : H ≤ 6) (hk2 : 2 ≤ k) (hk4 : k ≤ 4) (hnn : nn = W * H) (h24 : nn ≤ 24) (f : Nat)
    (ih : ∀ f', f = f' + 1 → ∀ (U s : Nat) (w : World), Corr W H U s → card s ≤ f' → Calls Try.prog 104 #[.int .i64 (W : Int), .int .i64 (H : Int), .int .i64 (k : Int), .int .i64 (U : Int)] w fun e w' => e = .returned (.int .i64 (wrap64 (covs (tilesL k) f' s))) ∧ w = w')
    (U s : Nat) (w : World) (hC : Corr W H U s) (hcf : card s ≤ f) :
    Calls Try.prog 104 #[.int .i64 (W : Int), .int .i64 (H : Int), .int .i64 (k : Int), .int .i64 (U : Int)] w fun e w' => e = .returned (.int .i64 (wrap64 (covs (tilesL k) f s))) ∧ w = w' := by
  have hU60 := hC.ult (by omega)
  have hU63 : U < 9223372036854775808 := by omega
  have hmul : (W : Int) * (H : Int) = (nn : Int) := by rw [hnn]; simp
  have hw0 : IntKind.i64.wrap (nn : Int) = (nn : Int) := IntWalk.i64_in _ (by omega)
  have HNN := Lib.hid hnn
  have HC := Lib.hid hC
  have HCF := Lib.hid hcf
  have Ih := Lib.hid ih
  clear hC hcf ih hnn
  go_enter Try.func104, Try.ntmps104
  go_upto_block 0 with fail
  go_cut [10] from 18 to 29 (fun q wr => ∃ a : Nat, a ≤ nn ∧ q = .int .i64 a ∧ Hid (∀ j < a, U.testBit j = true) ∧ Hid (a < nn → U.testBit a = false) ∧ w = wr)
  case first =>
    go_wp2_with fail
    go_loop [10] (fun q => ∃ a : Nat, a ≤ nn ∧ q = .int .i64 a ∧ Hid (∀ j < a, U.testBit j = true)) (fun q => nn - (intOf q).toNat)
    case atStart => exact ⟨0, by omega, rfl, Lib.hid (fun j hj => absurd hj (by omega))⟩
    case round =>
      obtain ⟨a, ha, rfl, HA⟩ := hrel
      have ha0 : (0 : Int) ≤ (a : Int) := by omega
      have hbit := i64_bit U a hU63
      by_cases han : a < nn
      · have da : decide (a < nn) = true := decide_eq_true han
        have da2 : decide ((a : Int) < (nn : Int)) = true := decide_eq_true (by omega)
        cases hu : U.testBit a
        · rw [hu] at hbit
          have HU := Lib.hid hu
          clear hu
          go_wp2_with fail
          go_meet
          exact ⟨a, by omega, rfl, HA, Lib.hid (fun _ => HU.out), rfl⟩
        · rw [hu] at hbit
          have HA2 := Lib.hid (all_snoc_lt' HA.out hu)
          clear hu
          go_wp2_with fail
          go_round
          case rel => exact ⟨a + 1, by omega, by go_num, HA2⟩
          case measure => simp [intOf]; omega
      · obtain rfl : a = nn := by omega
        have da : decide (a < a) = false := decide_eq_false (by omega)
        go_wp2_with fail
        go_meet
        exact ⟨a, by omega, rfl, HA, Lib.hid (fun h => absurd h (by omega)), rfl⟩
  case rest =>
    obtain ⟨a, ha, rfl, HA, HA2, rfl⟩ := hcut
    by_cases han : a = nn
    · have hs0 := Lib.hid (HC.out.zero (by rw [← HNN.out, ← han]; exact HA.out))
      have e0 : ((a : Int) == (nn : Int)) = true := by simp [han]
      clear han
      go_wp2_with fail
      go_ret
      exact ⟨ret_int (by rw [hs0.out, covs_zero]; exact (IntWalk.wrap64_in 1 (by omega)).symm), rfl⟩
    · have e0 : ((a : Int) == (nn : Int)) = false := by simp; omega
      have han2 : a < nn := by omega
      obtain ⟨x, hx⟩ : ∃ x, x = a % W := ⟨_, rfl⟩
      obtain ⟨y, hy⟩ : ∃ y, y = a / W := ⟨_, rfl⟩
      have hxW : x < W := by rw [hx]; exact Nat.mod_lt _ (by omega)
      have hyH : y < H := by rw [hy]; exact Nat.div_lt_of_lt_mul (by rw [← HNN.out]; exact han2)
      have hay : a = y * W + x := by rw [hx, hy, Nat.mul_comm]; exact (Nat.div_add_mod a W).symm
      obtain ⟨hs0, hlow⟩ := HC.out.first hW hH hxW hyH hay HA.out (HA2.out han2)
      obtain ⟨f', rfl⟩ : ∃ f', f = f' + 1 := by
        rcases f with _ | f'
        · have := HCF.out
          exact absurd ((card_zero HC.out.sl).1 (by omega)) hs0
        · exact ⟨f', rfl⟩
      have HIh := Lib.hid (Ih.out f' rfl)
      obtain ⟨hr1, hr2⟩ := HC.out.row hW hH hxW hyH hay (show 1 ≤ k by omega) hk4
      obtain ⟨hc1, hc2⟩ := HC.out.col hW hH hxW hyH hay (show 1 ≤ k by omega) hk4
      obtain ⟨G, hG⟩ : ∃ G : Nat → Int, G = fun own => covs (tilesL k) f' (bdiff s own) := ⟨_, rfl⟩
      have hcv : covs (tilesL k) (f' + 1) s = covSum G s (tL1 x y k) + covSum G s (tL2 x y k) := by
        rw [covs_succ _ _ hs0, hlow, hG]
        unfold tilesL
        rw [covSum_app, show (cellOf (8 * y + x)).1 = (x : Int) by unfold cellOf; dsimp only; omega, show (cellOf (8 * y + x)).2 = (y : Int) by unfold cellOf; dsimp only; omega]
      have HCV := Lib.hid hcv
      have HR1 := Lib.hid hr1
      have HR2 := Lib.hid hr2
      have HC1 := Lib.hid hc1
      have HC2 := Lib.hid hc2
      have HG := Lib.hid hG
      have HS0 := Lib.hid hs0
      have HX := Lib.hid hx
      have HY := Lib.hid hy
      have HAY := Lib.hid hay
      clear han hx hy hay hs0 hlow hr1 hr2 hc1 hc2 hG hcv Ih
      go_wp2_with fail
      go_loop [12, 13, 14] (fun p q i => ∃ j : Nat, j ≤ k ∧ i = .int .i64 j ∧ p = .int .i64 (acr a j : Nat) ∧ q = .int .i64 (dwn a W j : Nat)) (fun _ _ i => k - (intOf i).toNat)
      case atStart => exact ⟨0, by omega, rfl, rfl, rfl⟩
      case round =>
        obtain ⟨j, hj, rfl, rfl, rfl⟩ := hrel
        by_cases hjk : j < k
        · have dj : decide (j < k) = true := decide_eq_true hjk
          have dj2 : decide ((j : Int) < (k : Int)) = true := decide_eq_true (by omega)
          obtain ⟨m, hm⟩ : ∃ m, m = j * W := ⟨_, rfl⟩
          have hm18 : m ≤ 18 := by rw [hm]; have := Nat.mul_le_mul (show j ≤ 3 by omega) hW; omega
          have hjw : (j : Int) * (W : Int) = (m : Int) := by rw [hm]; simp
          have hwm : IntKind.i64.wrap (m : Int) = (m : Int) := IntWalk.i64_in _ (by omega)
          have H1 := Lib.hid (show acr a (j + 1) = acr a j ||| 2 ^ (a + j) from rfl)
          have H2 := Lib.hid (show dwn a W (j + 1) = dwn a W j ||| 2 ^ (a + m) by rw [dwn, hm])
          have hp1 := acr_lt (a := a) (by omega) j (by omega)
          have hp2 := dwn_lt (a := a) (W := W) (by omega) hW j (by omega)
          have he1 : a + j ≤ 60 := by omega
          have he2 : a + m ≤ 60 := by omega
          clear hm
          go_wp2_with fail
          go_round
          case rel => exact ⟨j + 1, by omega, by go_num, by rw [H1.out]; exact congrArg _ (or_pow hp1 he1), by rw [H2.out]; exact congrArg _ (or_pow hp2 he2)⟩
          case measure => simp [intOf]; omega
        · have hj2 : j = k := by omega
          have dj : decide (j < k) = false := decide_eq_false (by omega)
          have dj2 : decide ((j : Int) < (k : Int)) = false := decide_eq_false (by omega)
          have hp1 := acr_lt (a := a) (by omega) k (by omega)
          have hp2 := dwn_lt (a := a) (W := W) (by omega) hW k (by omega)
          obtain ⟨c1, hc1⟩ : ∃ c1, c1 = acr a k := ⟨_, rfl⟩
          obtain ⟨c2, hc2⟩ : ∃ c2, c2 = dwn a W k := ⟨_, rfl⟩
          rw [hj2, ← hc1, ← hc2]
          rw [← hc1] at hp1
          rw [← hc2] at hp2
          have HA1 := Lib.hid hc1
          have HA2 := Lib.hid hc2
          clear hj2 hc1 hc2
          have e1 : Int.tmod (a : Int) (W : Int) = (x : Int) := by rw [Int.tmod_eq_emod_of_nonneg (by omega), HX.out]; rfl
          have e2 : Int.tdiv (a : Int) (W : Int) = (y : Int) := by rw [Int.tdiv_eq_ediv_of_nonneg (by omega), HY.out]; rfl
          have e3 : (a : Int) % (W : Int) = (x : Int) := by rw [HX.out]; rfl
          have e4 : (a : Int) / (W : Int) = (y : Int) := by rw [HY.out]; rfl
          have nz : ((W : Int) == 0) = false := by simp; omega
          have nz2 : (W : Int) ≠ 0 := by omega
          have ha1 := i64_and_nat U c1 hU63 (by omega)
          have ha2 := i64_and_nat U c2 hU63 (by omega)
          have ho1 := i64_or_nat U c1 hU63 (by omega)
          have ho2 := i64_or_nat U c2 hU63 (by omega)
          have hwy : IntKind.i64.wrap (y : Int) = (y : Int) := IntWalk.i64_in _ (by omega)
          obtain ⟨n1, hn1⟩ : ∃ n1, n1 = wrap64 (covSum G s (tL1 (x : Int) (y : Int) k)) := ⟨_, rfl⟩
          obtain ⟨o1, hoo1⟩ : ∃ o1, o1 = setL (rowL (x : Int) (y : Int) k) := ⟨_, rfl⟩
          obtain ⟨o2, hoo2⟩ : ∃ o2, o2 = setL (colL (x : Int) (y : Int) k) := ⟨_, rfl⟩
          have HT1 := cov_tL1 G s (x : Int) (y : Int) k
          have HT2 := cov_tL2 G s (x : Int) (y : Int) k
          have hR1 := HR1.out
          have hR2 := HR2.out
          have hC1 := HC1.out
          have hC2 := HC2.out
          rw [← HA1.out, ← hoo1] at hR1 hR2
          rw [← HA2.out, ← hoo2] at hC1 hC2
          rw [← hoo1] at HT1
          rw [← hoo2] at HT2
          have hne1 : o1 ≠ 0 := by rw [hoo1]; exact setL_mem_ne (List.mem_of_getElem? (rowL_get _ _ (show 0 < k by omega)))
          have hne2 : o2 ≠ 0 := by rw [hoo2]; exact setL_mem_ne (List.mem_of_getElem? (colL_get _ _ (show 0 < k by omega)))
          have hl1 : x + k ≤ W ∧ U &&& c1 = 0 → o1 < 18446744073709551616 := fun h => by rw [hoo1]; exact setL_lt (rowL_ok (by omega) (cellOk_iff.2 (by omega)) (hR1.1 h).1)
          have hl2 : y + k ≤ H ∧ U &&& c2 = 0 → o2 < 18446744073709551616 := fun h => by rw [hoo2]; exact setL_lt (colL_ok (by omega) (cellOk_iff.2 (by omega)) (hC1.1 h).1)
          have HT1 := Lib.hid HT1
          have HT2 := Lib.hid HT2
          have HN1 := Lib.hid hn1
          have HRo1 := Lib.hid hR1
          have HRo2 := Lib.hid hR2
          have HCo1 := Lib.hid hC1
          have HCo2 := Lib.hid hC2
          have HL1 := Lib.hid hl1
          have HL2 := Lib.hid hl2
          have hrg := wrap_rng (covSum G s (tL1 (x : Int) (y : Int) k))
          rw [← hn1] at hrg
          clear hn1 hoo1 hoo2 hR1 hR2 hC1 hC2 hl1 hl2 HR1 HR2 HC1 HC2
          go_upto_region 15 with fail
          obtain ⟨rb, hrb⟩ : ∃ rb, rb = decide (x + k ≤ W ∧ U &&& c1 = 0) := ⟨_, rfl⟩
          go_cut [64] from 52 to 64 (fun q wr => q = .bool rb ∧ w = wr)
          case first =>
            by_cases hxk : x + k ≤ W
            · have d1 : decide ((x : Int) + (k : Int) ≤ (W : Int)) = true := decide_eq_true (by omega)
              have d1n : decide (x + k ≤ W) = true := decide_eq_true hxk
              by_cases hz : U &&& c1 = 0
              · have z1 : (bits BinOp.and IntKind.i64 (U : Int) (c1 : Int) == 0) = true := by rw [ha1, hz]; rfl
                have HV := Lib.hid (show rb = true by rw [hrb, decide_eq_true ⟨hxk, hz⟩])
                clear ha1 hz ha2 ho1 ho2 hrb
                go_wp2_with fail
                go_meet
                exact ⟨by rw [HV.out], rfl⟩
              · have z1 : (bits BinOp.and IntKind.i64 (U : Int) (c1 : Int) == 0) = false := by rw [ha1]; simp; omega
                have HV := Lib.hid (show rb = false by rw [hrb, decide_eq_false (fun e => hz e.2)])
                clear ha1 hz ha2 ho1 ho2 hrb
                go_wp2_with fail
                go_meet
                exact ⟨by rw [HV.out], rfl⟩
            · have d1 : decide ((x : Int) + (k : Int) ≤ (W : Int)) = false := decide_eq_false (by omega)
              have d1n : decide (x + k ≤ W) = false := decide_eq_false hxk
              have HV := Lib.hid (show rb = false by rw [hrb, decide_eq_false (fun e => hxk e.1)])
              clear ha1 ha2 ho1 ho2 hrb
              go_wp2_with fail
              go_meet
              exact ⟨by rw [HV.out], rfl⟩
          case rest =>
          obtain ⟨rfl, rfl⟩ := hcut
          go_upto_if 64 with fail
          go_cut [11] from 64 to 73 (fun q wr => q = .int .i64 n1 ∧ w = wr)
          case first =>
            cases hb2 : rb
            · have hno : ¬ (x + k ≤ W ∧ U &&& c1 = 0) := of_decide_eq_false (by rw [← hrb, hb2])
              have HV := Lib.hid (show n1 = 0 by rw [HN1.out, HT1.out, if_neg (fun e => hno (HRo1.out.2 e))]; exact IntWalk.wrap64_in 0 (by omega))
              clear ha1 ha2 ho1 ho2 hrb hb2 hno
              go_wp2_with fail
              go_meet
              exact ⟨by rw [HV.out], rfl⟩
            · have hyes : x + k ≤ W ∧ U &&& c1 = 0 := of_decide_eq_true (by rw [← hrb, hb2])
              have hrow := HRo1.out.1 hyes
              have hcd := sub_card HC.out.sl (HL1.out hyes) hrow.2 hne1 HCF.out
              have HC3 := Lib.hid (HIh.out (U ||| c1) (bdiff s o1) w (HRo2.out hyes.1 hyes.2) hcd)
              have HV := Lib.hid (show wrap64 (covs (tilesL k) f' (bdiff s o1)) = n1 by rw [HN1.out, HT1.out, if_pos hrow, HG.out])
              clear ha1 hyes hrow hcd ha2 ho2 hrb hb2
              go_wp2_with (go_at_call 104; refine HC3.out.mono ?_; rintro e wn ⟨rfl, rfl⟩; rw [HV.out])
              go_meet
              exact ⟨rfl, rfl⟩
          case rest =>
            obtain ⟨rfl, rfl⟩ := hcut
            clear hrb
            by_cases hyk : y + k ≤ H
            · have d1 : decide ((y : Int) + (k : Int) ≤ (H : Int)) = true := decide_eq_true (by omega)
              have d1n : decide (y + k ≤ H) = true := decide_eq_true hyk
              by_cases hz : U &&& c2 = 0
              · have z1 : (bits BinOp.and IntKind.i64 (U : Int) (c2 : Int) == 0) = true := by rw [ha2, hz]; rfl
                have hcol := HCo1.out.1 ⟨hyk, hz⟩
                have hcd := sub_card HC.out.sl (HL2.out ⟨hyk, hz⟩) hcol.2 hne2 HCF.out
                have HC3 := Lib.hid (HIh.out (U ||| c2) (bdiff s o2) w (HCo2.out hyk hz) hcd)
                obtain ⟨x2, hx2⟩ : ∃ x2, x2 = wrap64 (covs (tilesL k) f' (bdiff s o2)) := ⟨_, rfl⟩
                obtain ⟨n2, hn2⟩ : ∃ n2, n2 = wrap64 (n1 + x2) := ⟨_, rfl⟩
                have HV := Lib.hid hx2.symm
                have hv1 : wrap64 (n1 + x2) = n2 := hn2.symm
                have hv2 : IntKind.i64.wrap (n1 + x2) = n2 := by rw [wrap_i64, hv1]
                have HE := Lib.hid (show wrap64 (covs (tilesL k) (f' + 1) s) = n2 by rw [HCV.out, HT2.out, if_pos hcol, hn2, hx2, HN1.out, wrap_add, HG.out])
                clear ha1 hz hcol hcd ha2 ho1 hx2 hn2
                go_wp2_with (go_at_call 104; refine HC3.out.mono ?_; rintro e wn ⟨rfl, rfl⟩; rw [HV.out])
                go_ret
                exact ⟨ret_int HE.out.symm, rfl⟩
              · have z1 : (bits BinOp.and IntKind.i64 (U : Int) (c2 : Int) == 0) = false := by rw [ha2]; simp; omega
                have HE := Lib.hid (show wrap64 (covs (tilesL k) (f' + 1) s) = n1 by rw [HCV.out, HT2.out, if_neg (fun e => hz (HCo1.out.2 e).2), Int.add_zero, HN1.out])
                clear ha1 hz ha2 ho1 ho2
                go_wp2_with fail
                go_ret
                exact ⟨ret_int HE.out.symm, rfl⟩
            · have d1 : decide ((y : Int) + (k : Int) ≤ (H : Int)) = false := decide_eq_false (by omega)
              have d1n : decide (y + k ≤ H) = false := decide_eq_false hyk
              have HE := Lib.hid (show wrap64 (covs (tilesL k) (f' + 1) s) = n1 by rw [HCV.out, HT2.out, if_neg (fun e => hyk (HCo1.out.2 e).1), Int.add_zero, HN1.out])
              clear ha1 ha2 ho1 ho2
              go_wp2_with fail
              go_ret
              exact ⟨ret_int HE.out.symm, rfl⟩
theorem l28Count_any (W H k nn : Nat) (hW1 : 1 ≤ W) (hW : W ≤ 6) (hH : H ≤ 6) (hk2 : 2 ≤ k) (hk4 : k ≤ 4) (hnn : nn = W * H) (h24 : nn ≤ 24) : ∀ (f U s : Nat) (w : World), Corr W H U s → card s ≤ f →
    Calls Try.prog 104 #[.int .i64 (W : Int), .int .i64 (H : Int), .int .i64 (k : Int), .int .i64 (U : Int)] w fun e w' => e = .returned (.int .i64 (wrap64 (covs (tilesL k) f s))) ∧ w = w' := by
  intro f
  induction f with
  | zero => exact l28Count_step W H k nn hW1 hW hH hk2 hk4 hnn h24 0 (fun f' h => absurd h (by omega))
  | succ f ih => exact l28Count_step W H k nn hW1 hW hH hk2 hk4 hnn h24 (f + 1) (fun f' h => by cases h; exact ih)
theorem rect_bit {W H : Nat} (hW1 : 1 ≤ W) (hW : W ≤ 8) (hH1 : 1 ≤ H) (hH : H ≤ 8) (i : Nat) : (regSet (rectR (W : Int) (H : Int))).testBit i = (decide (i % 8 < W) && decide (i / 8 < H)) := by
  rw [regSet_bit (rectR_ok _ _)]
  have h1 : inB (W : Int) 1 8 = true := inB_true.2 (by omega)
  have h2 : inB (H : Int) 1 8 = true := inB_true.2 (by omega)
  unfold rectR regHas cellOf
  rw [h1, h2]
  simp only [Bool.and_self, if_true, Int.toNat_natCast]
  rw [show ((i : Int) / 8).toNat = i / 8 by omega, show ((i : Int) % 8).toNat = i % 8 by omega, List.getElem?_replicate]
  by_cases c2 : i / 8 < H
  · rw [if_pos c2]
    simp only [Option.getD_some]
    rw [show (((2 ^ W : Nat) : Int) - 1).toNat = 2 ^ W - 1 by have : 1 ≤ 2 ^ W := Nat.one_le_two_pow; omega, Nat.testBit_two_pow_sub_one]
    simp [c2]
  · rw [if_neg c2]
    simp [c2]
theorem corr_rect {W H : Nat} (hW1 : 1 ≤ W) (hW : W ≤ 6) (hH1 : 1 ≤ H) (hH : H ≤ 6) : Corr W H 0 (regSet (rectR (W : Int) (H : Int))) :=
  ⟨fun j hj => by simp at hj, regSet_lt (rectR_ok _ _), fun i => by rw [rect_bit hW1 (by omega) hH1 (by omega)]; simp⟩
theorem CountLong_s (a b c : Int) (w : World) :
    Calls Try.prog 26 #[.int .i64 a, .int .i64 b, .int .i64 c] w fun e w' => e = .returned (.int .i64 (countLong a b c)) ∧ w = w' := by
  cases h : longOk a b c
  · have H := Lib.hid (countLong_no1 h)
    have H1 := Lib.hid h
    clear h
    go_enter Try.func26, Try.ntmps26
    go_wp2_with (go_at_call 103; refine (LongOk_s a b c _).mono ?_; rintro e wn ⟨rfl, rfl⟩; rw [H1.out])
    go_ret
    exact ⟨ret_int H.out.symm, rfl⟩
  · have hr := longOk_iff.1 h
    obtain ⟨k, rfl⟩ : ∃ k : Nat, c = k := ⟨c.toNat, by omega⟩
    obtain ⟨W, rfl⟩ : ∃ W : Nat, a = W := ⟨a.toNat, by omega⟩
    obtain ⟨H, rfl⟩ : ∃ H : Nat, b = H := ⟨b.toNat, by omega⟩
    have hm := mul6 hr.1.1 hr.1.2 hr.2.1.1 hr.2.1.2
    obtain ⟨nn, hnn⟩ : ∃ nn, nn = W * H := ⟨_, rfl⟩
    have hp2 : (W : Int) * (H : Int) = (nn : Int) := by rw [hnn]; simp
    have H1 := Lib.hid h
    rw [hp2] at hm
    have hw0 : IntKind.i64.wrap (nn : Int) = (nn : Int) := IntWalk.i64_in _ (by omega)
    by_cases h24 : nn ≤ 24
    · have HE := Lib.hid (countLong_yes h (by rw [hp2]; omega))
      have d1 : decide (24 < (nn : Int)) = false := decide_eq_false (by omega)
      have HC := Lib.hid (l28Count_any W H k nn (by omega) (by omega) (by omega) (by omega) (by omega) hnn h24 64 0 (regSet (rectR (W : Int) (H : Int))) w (corr_rect (by omega) (by omega) (by omega) (by omega)) (card_le _))
      clear h hnn
      go_enter Try.func26, Try.ntmps26
      go_wp2_with (first | (go_at_call 103; refine (LongOk_s W H k _).mono ?_; rintro e wn ⟨rfl, rfl⟩; rw [H1.out]) | (go_at_call 104; refine HC.out.mono ?_; rintro e wn ⟨rfl, rfl⟩))
      go_ret
      exact ⟨ret_int HE.out.symm, rfl⟩
    · have HE := Lib.hid (countLong_no2 (a := (W : Int)) (b := (H : Int)) (k : Int) (by rw [hp2]; omega))
      have d1 : decide (24 < (nn : Int)) = true := decide_eq_true (by omega)
      clear h hnn
      go_enter Try.func26, Try.ntmps26
      go_wp2_with (go_at_call 103; refine (LongOk_s W H k _).mono ?_; rintro e wn ⟨rfl, rfl⟩; rw [H1.out])
      go_ret
      exact ⟨ret_int HE.out.symm, rfl⟩
end Go.Proofs.Ytdcjhfmkkcakhaa

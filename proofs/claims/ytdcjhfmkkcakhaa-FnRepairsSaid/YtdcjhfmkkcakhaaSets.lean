/-
  Contracts of the functions on sets of cells and on a region's cells (both): what each returns, as a function of its arguments; nothing that was there is written; no statement is proved here.
-/
import Derived.Test.YtdcjhfmkkcakhaaDomino
import Derived.Test.YtdcjhfmkkcakhaaRegion
namespace Go.Proofs.Ytdcjhfmkkcakhaa
open Go.ChangeShapes Go.WideShapes Go.ChangeAt Go.RowKit Go.Deep
set_option linter.unusedVariables false

def cellOf (k : Nat) : Int × Int := ((k : Int) % 8, (k : Int) / 8)
def cellsBy (p : Nat → Bool) (k : Nat) : List (Int × Int) := ((List.range k).filter p).map cellOf
theorem cellsBy_succ (p : Nat → Bool) (k : Nat) : cellsBy p (k + 1) = cellsBy p k ++ (if p k then [cellOf k] else []) := by
  unfold cellsBy
  rw [List.range_succ, List.filter_append, List.map_append]
  by_cases h : p k <;> simp [h]
theorem cellOf_i64 (k : Nat) (h : k < 64) : I64 (cellOf k).1 ∧ I64 (cellOf k).2 := by
  unfold cellOf I64; omega
theorem cellsBy_len (p : Nat → Bool) (k : Nat) : (cellsBy p k).length ≤ k := by
  unfold cellsBy
  rw [List.length_map]
  exact Nat.le_trans (List.length_filter_le _ _) (by simp)
def regHas (l : List Int) (x y : Int) : Bool := ((l[y.toNat]?).getD 0).toNat.testBit x.toNat
def hasBit (s : Nat) (x y : Int) : Bool := cellOk x y && s.testBit (y * 8 + x).toNat
theorem shr_bit (s n : Nat) : ((s >>> n &&& 1 : Nat) == 1) = s.testBit n := by
  rw [Nat.testBit]
  have : s >>> n &&& 1 = 0 ∨ s >>> n &&& 1 = 1 := by rw [Nat.and_one_is_mod]; omega
  rw [Nat.and_comm 1]
  rcases this with h | h <;> simp [h]
theorem cast_div_pow (s n : Nat) : (s : Int) / 2 ^ n = ((s >>> n : Nat) : Int) := by
  rw [Nat.shiftRight_eq_div_pow, Int.natCast_ediv]; simp
theorem beq_cast (a b : Nat) : ((a : Int) == (b : Int)) = (a == b) := by
  rw [Bool.eq_iff_iff, beq_iff_eq, beq_iff_eq]; omega
theorem u64_bit (s n : Nat) (hs : s < 18446744073709551616) : (bits BinOp.and IntKind.u64 ((s : Int) / 2 ^ n) 1 == 1) = s.testBit n := by
  rw [cast_div_pow]
  have h1 : s >>> n < 18446744073709551616 := Nat.lt_of_le_of_lt (by rw [Nat.shiftRight_eq_div_pow]; exact Nat.div_le_self _ _) hs
  have e : bits BinOp.and IntKind.u64 ((s >>> n : Nat) : Int) ((1 : Nat) : Int) = ((s >>> n &&& 1 : Nat) : Int) := u64_and_nat _ _ h1 (by decide)
  exact (congrArg (fun z : Int => z == 1) e).trans ((beq_cast _ 1).trans (shr_bit s n))
theorem ofInt_i64 (a : Nat) (ha : a < 9223372036854775808) : (BitVec.ofInt 64 (a : Int)).toNat = a := by
  rw [BitVec.ofInt_natCast, BitVec.toNat_ofNat]; exact Nat.mod_eq_of_lt (by omega)
theorem i64_and_nat (a b : Nat) (ha : a < 9223372036854775808) (hb : b < 9223372036854775808) : bits .and .i64 (a : Int) (b : Int) = ((a &&& b : Nat) : Int) := by
  have hx : a &&& b < 2 ^ 63 := Nat.and_lt_two_pow _ (by omega)
  show IntKind.i64.wrap ((BitVec.ofInt 64 (a : Int) &&& BitVec.ofInt 64 (b : Int)).toNat : Int) = _
  rw [BitVec.toNat_and, ofInt_i64 a ha, ofInt_i64 b hb, IntKind.wrap_i64]
  omega
theorem i64_bit (s n : Nat) (hs : s < 9223372036854775808) : (bits BinOp.and IntKind.i64 ((s : Int) / 2 ^ n) 1 == 1) = s.testBit n := by
  rw [cast_div_pow]
  have h1 : s >>> n < 9223372036854775808 := Nat.lt_of_le_of_lt (by rw [Nat.shiftRight_eq_div_pow]; exact Nat.div_le_self _ _) hs
  have e : bits BinOp.and IntKind.i64 ((s >>> n : Nat) : Int) ((1 : Nat) : Int) = ((s >>> n &&& 1 : Nat) : Int) := i64_and_nat _ _ h1 (by decide)
  exact (congrArg (fun z : Int => z == 1) e).trans ((beq_cast _ 1).trans (shr_bit s n))
theorem cellAt_any (k : Nat) (w : World) (hk : k ≤ 1000) :
    Calls Try.prog 179 #[.int .i64 k] w fun e w' => e = .returned (.agg #[.int .i64 (cellOf k).1, .int .i64 (cellOf k).2]) ∧ Below w.heap.size w w' := by
  go_enter Try.func179, Try.ntmps179
  go_wp2
  go_returns
  exact ⟨rfl, by go_grown⟩
theorem CellAt_s (k : Nat) (w : World) (hk : k < 64) :
    Calls Try.prog 100 #[.int .i64 k] w fun e w' => e = .returned (.tuple #[.agg #[.int .i64 (cellOf k).1, .int .i64 (cellOf k).2], .bool true]) ∧ Below w.heap.size w w' := by
  have hi : inB k 0 63 = true := inB_true.2 ⟨by omega, by omega⟩
  go_enter Try.func100, Try.ntmps100
  go_wp2_with (go_at_call 128; refine (l01In_any _ _ _ _).mono ?_; rintro e wn ⟨rfl, rfl⟩)
  go_returns
  exact ⟨rfl, by go_grown⟩
theorem has_any (s : Nat) (x y : Int) (w : World) (hs : s < 18446744073709551616) :
    Calls Try.prog 126 #[.int .u64 s, .agg #[.int .i64 x, .int .i64 y]] w fun e w' => e = .returned (.bool (hasBit s x y)) ∧ Below w.heap.size w w' := by
  have hB := Below.refl w.heap.size w
  have P := Blk.new w 35 [.int .i64 x, .int .i64 y]
  have Pc := P.c2
  cases h : cellOk x y
  · go_enter Try.func126, Try.ntmps126
    go_wp2_with (go_at_call 102; refine (CellOk_i _ _ _).mono ?_; rintro e wn ⟨rfl, hbn⟩; have hSz := bl_sz (bl_trans hB (by go_grown)) hbn; replace hB := bl_trans (bl_trans hB (by go_grown)) hbn; replace P := P.bel (bl_trans (by go_grown) hbn); replace Pc := P.c2; clear hbn)
    go_ret
    exact ⟨ret_bool (by simp [hasBit, h]), (by first | (go_grown; done) | exact bl_trans hB (by go_grown))⟩
  · have hc := cellOk_iff.1 h
    have hi : cellIdx x y = y * 8 + x := by simp [cellIdx, h]
    have hi' := Lib.hid hi
    clear hi
    go_enter Try.func126, Try.ntmps126
    go_wp2_with (first | (go_at_call 102; refine (CellOk_i _ _ _).mono ?_; rintro e wn ⟨rfl, hbn⟩; have hSz := bl_sz (bl_trans hB (by go_grown)) hbn; replace hB := bl_trans (bl_trans hB (by go_grown)) hbn; replace P := P.bel (bl_trans (by go_grown) hbn); replace Pc := P.c2; clear hbn) | (go_at_call 192; refine (CellIndex_i _ _ _).mono ?_; rintro e wn ⟨rfl, hbn⟩; have hSz := bl_sz (bl_trans hB (by go_grown)) hbn; replace hB := bl_trans (bl_trans hB (by go_grown)) hbn; replace P := P.bel (bl_trans (by go_grown) hbn); replace Pc := P.c2; rw [hi'.out]; clear hbn))
    go_ret
    exact ⟨ret_bool (by rw [u64_bit _ _ hs]; simp [hasBit, h]), (by first | (go_grown; done) | exact bl_trans hB (by go_grown))⟩
set_option maxHeartbeats 1000000 in
theorem cells_any (s : Nat) (w : World) (hs : s < 18446744073709551616) :
    Calls Try.prog 93 #[.int .u64 s] w fun e w' => ∃ v, e = .returned v ∧ OwC w.heap.size w' v (cellsBy s.testBit 64) ∧ Below w.heap.size w w' := by
  have ho := OwC.new_ (B := w.heap.size) (w := w) (Nat.le_refl _)
  go_enter Try.func93, Try.ntmps93
  go_wp2
  go_loopw [3, 6] (fun v i wr => ∃ k : Nat, k ≤ 64 ∧ i = .int .i64 k ∧ OwC w.heap.size wr v (cellsBy s.testBit k) ∧ Below w.heap.size w wr) (fun _ i _ => 64 - (intOf i).toNat)
  case atStart => exact ⟨0, by omega, rfl, ho, by go_grown⟩
  case round =>
    obtain ⟨k, hk, rfl, hown, hb⟩ := hrel
    clear ho
    by_cases hlt : k < 64
    · have hsc := Lib.hid (cellsBy_succ s.testBit k)
      have hlen := cellsBy_len s.testBit k
      have Hb := Lib.hid hb
      clear hb
      have Ho := Lib.hid hown
      clear hown
      have hbit := u64_bit s k hs
      have hE := cellOf_i64 k hlt
      cases ht : s.testBit k
      · rw [ht] at hbit
        have ht' := Lib.hid ht
        clear ht
        go_wp2
        go_roundw
        case rel => exact ⟨k + 1, by omega, by go_num, by rw [hsc.out, ht'.out, if_neg (by decide), List.append_nil]; exact Ho.out, Hb.out⟩
        case measure => simp [intOf]; omega
      · rw [ht] at hbit
        have ht' := Lib.hid ht
        clear ht
        go_wp2_with (first | (go_at_call 179; refine (cellAt_any k _ (by omega)).mono ?_; rintro e wn ⟨rfl, hbn⟩; replace Ho := Lib.hid (Ho.out.bel hbn); replace Hb := Lib.hid (bl_trans Hb.out hbn)) | (at_builtin; refine wpList_appC rfl (.tmp 14) (.tmp 17) rfl w.heap.size _ (cellsBy s.testBit k) (cellOf k).1 (cellOf k).2 rfl rfl Ho.out Hb.out.size (by omega) hE.1 hE.2 ?_; intro v' w1 ho1 hb1 hg1))
        go_roundw
        case rel => exact ⟨k + 1, by omega, by go_num, by rw [hsc.out, ht'.out, if_pos rfl]; exact ho1, hb1 _ Hb.out⟩
        case measure => simp [intOf]; omega
    · have hk4 : k = 64 := by omega
      subst hk4
      go_wp2
      go_ret
      exact ⟨_, rfl, hown, hb⟩
theorem row_nat {l : List Int} {v : Int} {k : Nat} (h255 : ∀ v ∈ l, 0 ≤ v ∧ v ≤ 255) (h : l[k]? = some v) : ∃ n : Nat, v = n ∧ n ≤ 255 := by
  have := h255 v (List.mem_of_getElem? h)
  exact ⟨v.toNat, by omega, by omega⟩
set_option maxHeartbeats 2000000 in
theorem l03Has_any (A : Option Addr) (c : Nat) (l : List Int) (x y : Int) (w : World) (hl : l.length ≤ 8) (hr : RdI w A l) (h : cellOk x y = true) (h255 : ∀ v ∈ l, 0 ≤ v ∧ v ≤ 255) :
    Calls Try.prog 101 #[.agg #[.slice A l.length c], .agg #[.int .i64 x, .int .i64 y]] w fun e w' => e = .returned (.bool (regHas l x y)) ∧ Below w.heap.size w w' := by
  (have hB := Below.refl w.heap.size w; have P := (Blk.new w 31 [.slice A l.length c]).alloc (.cells #[.int .i64 x, .int .i64 y] 35); have Pc := P.c1; have Q := Blk.new2 w (.cells #[.slice A l.length c] 31) 35 [.int .i64 x, .int .i64 y]; have Qc := Q.c2)
  have hc := cellOk_iff.1 h
  obtain ⟨⟨hx0, hx1⟩, hy0, hy1⟩ := hc
  obtain ⟨X, rfl⟩ := Int.eq_ofNat_of_zero_le hx0
  obtain ⟨Y, rfl⟩ := Int.eq_ofNat_of_zero_le hy0
  by_cases hY : Y < l.length
  · have hr' := hr.below ((Below.refl _ _).alloc (Nat.le_refl _) (.cells #[.slice A l.length c] 31))
    replace hr' := hr'.below ((Below.refl _ _).alloc (Nat.le_refl _) (.cells #[.int .i64 X, .int .i64 Y] 35))
    obtain ⟨b', off, v, rfl, hbl, hv, hd, _, hcc⟩ := hr'.at_ hY
    obtain ⟨n, rfl, hn⟩ := row_nat h255 hv
    have hd' : decide ((Y : Int) < (l.length : Int)) = true := by simp; omega
    have hb := Lib.hid (i64_bit n X (by omega))
    have hf : regHas l X Y = n.testBit X := by simp [regHas, hv]
    rw [hf]
    clear hf hd hr hr' h hv h255
    go_enter Try.func101, Try.ntmps101
    go_wp2
    go_quiet (fail)
    go_wp2
    go_ret
    exact ⟨ret_bool (by simpa using hb.out), bl_drewN (by go_grown) _⟩
  · have hd' : decide ((Y : Int) < (l.length : Int)) = false := by simp; omega
    have hf : regHas l X Y = false := by simp [regHas, List.getElem?_eq_none (Nat.le_of_not_lt hY)]
    rw [hf]
    clear hf h
    go_enter Try.func101, Try.ntmps101
    go_wp2
    go_quiet (fail)
    go_wp2
    go_ret
    exact ⟨rfl, bl_drewN (by go_grown) _⟩
theorem regOk_iff {l : List Int} : regOk l = true ↔ l.length ≤ 8 ∧ ∀ v ∈ l, 0 ≤ v ∧ v ≤ 255 := by simp [regOk, inB]
theorem HasCell_s (A : Option Addr) (c : Nat) (l : List Int) (x y : Int) (w : World) (hl : l.length ≤ 1048576) (hr : RdI w A l) :
    Calls Try.prog 84 #[.agg #[.slice A l.length c], .agg #[.int .i64 x, .int .i64 y]] w fun e w' => e = .returned (.bool (regOk l && cellOk x y && regHas l x y)) ∧ Below w.heap.size w w' := by
  (have hB := Below.refl w.heap.size w; have P := (Blk.new w 31 [.slice A l.length c]).alloc (.cells #[.int .i64 x, .int .i64 y] 35); have Pc := P.c1; have Q := Blk.new2 w (.cells #[.slice A l.length c] 31) 35 [.int .i64 x, .int .i64 y]; have Qc := Q.c2)
  have hr' := Lib.hid hr
  clear hr
  cases h1 : regOk l
  · go_enter Try.func84, Try.ntmps84
    go_wp2_with (go_at_call 94; refine (RegionOk_s A c l _ hl (hr'.out.below (bl_trans hB (by go_grown)))).mono ?_; rintro e wn ⟨rfl, hbn⟩; have hSz := bl_sz (bl_trans hB (by go_grown)) hbn; replace hB := bl_trans (bl_trans hB (by go_grown)) hbn; replace P := P.bel (bl_trans (by go_grown) hbn); replace Pc := P.c1; replace Q := Q.bel (bl_trans (by go_grown) hbn); replace Qc := Q.c2; clear hbn)
    go_ret
    exact ⟨rfl, (by first | (go_grown; done) | exact bl_trans hB (by go_grown))⟩
  · have h2 := regOk_iff.1 h1
    cases h3 : cellOk x y
    · go_enter Try.func84, Try.ntmps84
      go_wp2_with (first | (go_at_call 94; refine (RegionOk_s A c l _ hl (hr'.out.below (bl_trans hB (by go_grown)))).mono ?_; rintro e wn ⟨rfl, hbn⟩; have hSz := bl_sz (bl_trans hB (by go_grown)) hbn; replace hB := bl_trans (bl_trans hB (by go_grown)) hbn; replace P := P.bel (bl_trans (by go_grown) hbn); replace Pc := P.c1; replace Q := Q.bel (bl_trans (by go_grown) hbn); replace Qc := Q.c2; clear hbn) | (go_at_call 120; refine (CellOk_s _ _ _).mono ?_; rintro e wn ⟨rfl, hbn⟩; have hSz := bl_sz (bl_trans hB (by go_grown)) hbn; replace hB := bl_trans (bl_trans hB (by go_grown)) hbn; replace P := P.bel (bl_trans (by go_grown) hbn); replace Pc := P.c1; replace Q := Q.bel (bl_trans (by go_grown) hbn); replace Qc := Q.c2; clear hbn))
      go_ret
      exact ⟨rfl, (by first | (go_grown; done) | exact bl_trans hB (by go_grown))⟩
    · have h2' := Lib.hid h2
      clear h2
      go_enter Try.func84, Try.ntmps84
      go_wp2_with (first | (go_at_call 94; refine (RegionOk_s A c l _ hl (hr'.out.below (bl_trans hB (by go_grown)))).mono ?_; rintro e wn ⟨rfl, hbn⟩; have hSz := bl_sz (bl_trans hB (by go_grown)) hbn; replace hB := bl_trans (bl_trans hB (by go_grown)) hbn; replace P := P.bel (bl_trans (by go_grown) hbn); replace Pc := P.c1; replace Q := Q.bel (bl_trans (by go_grown) hbn); replace Qc := Q.c2; clear hbn) | (go_at_call 120; refine (CellOk_s _ _ _).mono ?_; rintro e wn ⟨rfl, hbn⟩; have hSz := bl_sz (bl_trans hB (by go_grown)) hbn; replace hB := bl_trans (bl_trans hB (by go_grown)) hbn; replace P := P.bel (bl_trans (by go_grown) hbn); replace Pc := P.c1; replace Q := Q.bel (bl_trans (by go_grown) hbn); replace Qc := Q.c2; clear hbn) | (go_at_call 101; refine (l03Has_any A c l x y _ h2'.out.1 (hr'.out.below (bl_trans hB (by go_grown))) h3 h2'.out.2).mono ?_; rintro e wn ⟨rfl, hbn⟩; have hSz := bl_sz (bl_trans hB (by go_grown)) hbn; replace hB := bl_trans (bl_trans hB (by go_grown)) hbn; replace P := P.bel (bl_trans (by go_grown) hbn); replace Pc := P.c1; replace Q := Q.bel (bl_trans (by go_grown) hbn); replace Qc := Q.c2; clear hbn))
      go_ret
      exact ⟨ret_bool (by simp), (by first | (go_grown; done) | exact bl_trans hB (by go_grown))⟩
def regCells (l : List Int) : List (Int × Int) := if regOk l then cellsBy (fun k => regHas l (cellOf k).1 (cellOf k).2) 64 else []
theorem cellOf_ok (k : Nat) (h : k < 64) : cellOk (cellOf k).1 (cellOf k).2 = true := cellOk_iff.2 (by unfold cellOf; dsimp only; omega)
set_option maxHeartbeats 2000000 in
theorem CellsOf_s (A : Option Addr) (c : Nat) (l : List Int) (w : World) (hl : l.length ≤ 1048576) (hr : RdI w A l) :
    Calls Try.prog 23 #[.agg #[.slice A l.length c]] w fun e w' => ∃ v, e = .returned v ∧ OwC w.heap.size w' v (regCells l) ∧ Below w.heap.size w w' := by
  (have hB := Below.refl w.heap.size w; have P := Blk.new w 31 [.slice A l.length c]; have Pc := P.c1)
  replace P := P.alloc (.cells #[] 35)
  replace Pc := P.c1
  have hr' := Lib.hid hr
  clear hr
  have ho : OwC (w.heap.size + 1) ((w.alloc (.cells #[.slice A l.length c] 31)).alloc (.cells #[] 35)) (.slice (some ⟨w.heap.size + 1, 0, none⟩) 0 0) [] := by
    have := OwC.new_ (B := w.heap.size + 1) (w := w.alloc (.cells #[.slice A l.length c] 31)) (by simp)
    rwa [World.size_alloc] at this
  have ho' := Lib.hid ho
  clear ho
  cases h : regOk l
  · have hcc : regCells l = [] := by simp [regCells, h]
    rw [hcc]
    clear hcc
    go_enter Try.func23, Try.ntmps23
    go_wp2
    refine wp_loop_rounds 1 ?_
    rw [rounds_succ]
    go_wp2_with (go_at_call 94; refine (RegionOk_s A c l _ hl (hr'.out.below (bl_trans hB (by go_grown)))).mono ?_; rintro e wn ⟨rfl, hbn⟩; have hSz := bl_sz (bl_trans hB (by go_grown)) hbn; replace hB := bl_trans (bl_trans hB (by go_grown)) hbn; replace P := P.bel (bl_trans (by go_grown) hbn); replace Pc := P.c1; replace ho' := Lib.hid (ho'.out.bel hbn); clear hbn)
    go_ret
    exact ⟨_, rfl, ho'.out.mono (by omega), (by first | (go_grown; done) | exact bl_trans hB (by go_grown))⟩
  · have hcc : regCells l = cellsBy (fun k => regHas l (cellOf k).1 (cellOf k).2) 64 := by simp [regCells, h]
    rw [hcc]
    clear hcc
    have h2 := Lib.hid (regOk_iff.1 h)
    go_enter Try.func23, Try.ntmps23
    go_wp2
    go_loopw [3, 4] (fun v i wr => ∃ k : Nat, k ≤ 64 ∧ i = .int .i64 k ∧ OwC (w.heap.size + 1) wr v (cellsBy (fun k => regHas l (cellOf k).1 (cellOf k).2) k) ∧ Blk wr w.heap.size 31 [.slice A l.length c] ∧ Below w.heap.size w wr) (fun _ i _ => 64 - (intOf i).toNat)
    case atStart => exact ⟨0, by omega, rfl, ho'.out, P, by go_grown⟩
    case round =>
      obtain ⟨k, hk, rfl, hown, P', hB'⟩ := hrel
      clear Pc P hB ho'
      have P := P'
      have Pc := P.c1
      have hB := hB'
      clear P' hB'
      by_cases hlt : k < 64
      · have hs := Lib.hid (cellsBy_succ (fun k => regHas l (cellOf k).1 (cellOf k).2) k)
        have hlen := cellsBy_len (fun k => regHas l (cellOf k).1 (cellOf k).2) k
        have hE := cellOf_i64 k hlt
        have Ho := Lib.hid hown
        clear hown
        have hok := cellOf_ok k hlt
        cases ht : regHas l (cellOf k).1 (cellOf k).2
        · go_wp2_with (first | (go_at_call 94; refine (RegionOk_s A c l _ hl (hr'.out.below (bl_trans hB (by go_grown)))).mono ?_; rintro e wn ⟨rfl, hbn⟩; have hSz := bl_sz (bl_trans hB (by go_grown)) hbn; replace hB := bl_trans (bl_trans hB (by go_grown)) hbn; replace P := P.bel (bl_trans (by go_grown) hbn); replace Pc := P.c1; replace Ho := Lib.hid (Ho.out.bel hbn); clear hbn) | (go_at_call 100; refine (CellAt_s k _ hlt).mono ?_; rintro e wn ⟨rfl, hbn⟩; have hSz := bl_sz (bl_trans hB (by go_grown)) hbn; replace hB := bl_trans (bl_trans hB (by go_grown)) hbn; replace P := P.bel (bl_trans (by go_grown) hbn); replace Pc := P.c1; replace Ho := Lib.hid (Ho.out.bel hbn); have Q := Blk.new wn 35 [.int .i64 (cellOf k).1, .int .i64 (cellOf k).2]; have Qc := Q.c2; replace P := P.alloc (.cells #[.int .i64 (cellOf k).1, .int .i64 (cellOf k).2] 35); replace Pc := P.c1; replace Ho := Lib.hid (Ho.out.bel (Below.alloc (Below.refl _ _) (Nat.le_refl _) (.cells #[.int .i64 (cellOf k).1, .int .i64 (cellOf k).2] 35))); clear hbn) | (go_at_call 101; refine (l03Has_any A c l _ _ _ h2.out.1 (hr'.out.below (bl_trans hB (by go_grown))) hok h2.out.2).mono ?_; rintro e wn ⟨rfl, hbn⟩; have hSz := bl_sz (bl_trans hB (by go_grown)) hbn; replace hB := bl_trans (bl_trans hB (by go_grown)) hbn; replace P := P.bel (bl_trans (by go_grown) hbn); replace Pc := P.c1; replace Q := Q.bel (bl_trans (by go_grown) hbn); replace Qc := Q.c2; replace Ho := Lib.hid (Ho.out.bel hbn); clear hbn) | (at_builtin; refine wpList_appC rfl (.tmp 24) (.tmp 26) rfl (w.heap.size + 1) _ (cellsBy _ k) (cellOf k).1 (cellOf k).2 rfl rfl Ho.out P.lt (by omega) hE.1 hE.2 ?_; intro v' w1 ho1 hb1 hg1))
          go_roundw
          case rel => exact ⟨k + 1, by omega, by go_num, by rw [hs.out, ht, if_neg (by decide), List.append_nil]; exact Ho.out, P, hB⟩
          case measure => simp [intOf]; omega
        · go_wp2_with (first | (go_at_call 94; refine (RegionOk_s A c l _ hl (hr'.out.below (bl_trans hB (by go_grown)))).mono ?_; rintro e wn ⟨rfl, hbn⟩; have hSz := bl_sz (bl_trans hB (by go_grown)) hbn; replace hB := bl_trans (bl_trans hB (by go_grown)) hbn; replace P := P.bel (bl_trans (by go_grown) hbn); replace Pc := P.c1; replace Ho := Lib.hid (Ho.out.bel hbn); clear hbn) | (go_at_call 100; refine (CellAt_s k _ hlt).mono ?_; rintro e wn ⟨rfl, hbn⟩; have hSz := bl_sz (bl_trans hB (by go_grown)) hbn; replace hB := bl_trans (bl_trans hB (by go_grown)) hbn; replace P := P.bel (bl_trans (by go_grown) hbn); replace Pc := P.c1; replace Ho := Lib.hid (Ho.out.bel hbn); have Q := Blk.new wn 35 [.int .i64 (cellOf k).1, .int .i64 (cellOf k).2]; have Qc := Q.c2; replace P := P.alloc (.cells #[.int .i64 (cellOf k).1, .int .i64 (cellOf k).2] 35); replace Pc := P.c1; replace Ho := Lib.hid (Ho.out.bel (Below.alloc (Below.refl _ _) (Nat.le_refl _) (.cells #[.int .i64 (cellOf k).1, .int .i64 (cellOf k).2] 35))); clear hbn) | (go_at_call 101; refine (l03Has_any A c l _ _ _ h2.out.1 (hr'.out.below (bl_trans hB (by go_grown))) hok h2.out.2).mono ?_; rintro e wn ⟨rfl, hbn⟩; have hSz := bl_sz (bl_trans hB (by go_grown)) hbn; replace hB := bl_trans (bl_trans hB (by go_grown)) hbn; replace P := P.bel (bl_trans (by go_grown) hbn); replace Pc := P.c1; replace Q := Q.bel (bl_trans (by go_grown) hbn); replace Qc := Q.c2; replace Ho := Lib.hid (Ho.out.bel hbn); clear hbn) | (at_builtin; refine wpList_appC rfl (.tmp 24) (.tmp 26) rfl (w.heap.size + 1) _ (cellsBy _ k) (cellOf k).1 (cellOf k).2 rfl rfl Ho.out P.lt (by omega) hE.1 hE.2 ?_; intro v' w1 ho1 hb1 hg1))
          go_roundw
          case rel => exact ⟨k + 1, by omega, by go_num, by rw [hs.out, ht, if_pos rfl]; exact ho1, P.below (hb1 _ (Below.refl _ _)) (by omega), hB.trans ((hb1 _ (Below.refl _ _)).mono (by omega))⟩
          case measure => simp [intOf]; omega
      · have hk4 : k = 64 := by omega
        subst hk4
        go_wp2
        go_ret
        exact ⟨_, rfl, hown.mono (by omega), hB⟩
/-! a region's cells as one number -/
def regSetTo (l : List Int) : Nat → Nat
  | 0 => 0
  | k + 1 => regSetTo l k ||| (((l[k]?).getD 0).toNat <<< (8 * k))
def regSet (l : List Int) : Nat := regSetTo l l.length
theorem row_lt {l : List Int} (h255 : ∀ v ∈ l, 0 ≤ v ∧ v ≤ 255) (k : Nat) : ((l[k]?).getD 0).toNat < 2 ^ 8 := by
  rcases h : l[k]? with _ | v
  · simp
  · have := h255 v (List.mem_of_getElem? h)
    simp; omega
theorem regSetTo_lt {l : List Int} (h255 : ∀ v ∈ l, 0 ≤ v ∧ v ≤ 255) (k : Nat) : regSetTo l k < 2 ^ (8 * k) := by
  induction k with
  | zero => simp [regSetTo]
  | succ k ih =>
    rw [regSetTo]
    apply Nat.or_lt_two_pow
    · exact Nat.lt_of_lt_of_le ih (Nat.pow_le_pow_right (by decide) (by omega))
    · rw [Nat.shiftLeft_eq, show 8 * (k + 1) = 8 + 8 * k by omega, Nat.pow_add]
      exact Nat.mul_lt_mul_of_pos_right (row_lt h255 k) (Nat.two_pow_pos _)
theorem regSet_lt {l : List Int} (h : regOk l = true) : regSet l < 18446744073709551616 := by
  obtain ⟨h1, h2⟩ := regOk_iff.1 h
  exact Nat.lt_of_lt_of_le (regSetTo_lt h2 l.length) (Nat.pow_le_pow_right (n := 2) (by decide) (show 8 * l.length ≤ 64 by omega))
theorem regSetTo_bit {l : List Int} (h255 : ∀ v ∈ l, 0 ≤ v ∧ v ≤ 255) (k x y : Nat) (hx : x < 8) : (regSetTo l k).testBit (8 * y + x) = (decide (y < k) && regHas l x y) := by
  induction k with
  | zero => simp [regSetTo]
  | succ k ih =>
    rw [regSetTo, Nat.testBit_or, ih, Nat.testBit_shiftLeft]
    by_cases h1 : y = k
    · subst h1
      have e1 : decide (8 * y ≤ 8 * y + x) = true := by simp
      have e2 : 8 * y + x - 8 * y = x := by omega
      have e3 : decide (y < y + 1) = true := by simp
      rw [e1, e2, e3]
      simp [regHas]
    · by_cases h2 : y < k
      · have e1 : decide (8 * k ≤ 8 * y + x) = false := by simp; omega
        have e2 : decide (y < k) = true := by simp [h2]
        have e3 : decide (y < k + 1) = true := by simp; omega
        rw [e1, e2, e3]; simp
      · have e2 : decide (y < k) = false := by simp; omega
        have e3 : decide (y < k + 1) = false := by simp; omega
        have e4 : (((l[k]?).getD 0).toNat).testBit (8 * y + x - 8 * k) = false := by
          apply Nat.testBit_lt_two_pow
          exact Nat.lt_of_lt_of_le (row_lt h255 k) (Nat.pow_le_pow_right (by decide) (by omega))
        rw [e2, e3, e4]; simp
theorem regSet_bit {l : List Int} (h : regOk l = true) (i : Nat) : (regSet l).testBit i = regHas l (cellOf i).1 (cellOf i).2 := by
  obtain ⟨h1, h2⟩ := regOk_iff.1 h
  have e := regSetTo_bit h2 l.length (i % 8) (i / 8) (by omega)
  rw [show 8 * (i / 8) + i % 8 = i by omega] at e
  rw [regSet, e]
  have e2 : regHas l (cellOf i).1 (cellOf i).2 = regHas l ((i % 8 : Nat) : Int) ((i / 8 : Nat) : Int) := by
    unfold cellOf; congr 1
  rw [e2]
  by_cases h3 : i / 8 < l.length
  · simp [h3]
  · have : l[i / 8]? = none := List.getElem?_eq_none (by omega)
    have e5 : regHas l ((i % 8 : Nat) : Int) ((i / 8 : Nat) : Int) = false := by
      unfold regHas
      simp only [Int.toNat_natCast, this, Option.getD_none, Int.toNat_zero, Nat.zero_testBit]
    rw [e5]; simp
theorem regCells_set {l : List Int} (h : regOk l = true) : regCells l = cellsBy (regSet l).testBit 64 := by
  rw [regCells, if_pos h]
  congr 1
  funext k
  exact (regSet_bit h k).symm
theorem regCells_len (l : List Int) : (regCells l).length ≤ 64 := by
  unfold regCells; split
  · exact cellsBy_len _ _
  · simp
theorem cellsBy_ok {p : Nat → Bool} {k : Nat} (hk : k ≤ 64) {c : Int × Int} (h : c ∈ cellsBy p k) : cellOk c.1 c.2 = true := by
  unfold cellsBy at h
  obtain ⟨i, hi, rfl⟩ := List.mem_map.1 h
  exact cellOf_ok i (by have := List.mem_range.1 (List.mem_filter.1 hi).1; omega)
theorem regCells_ok {l : List Int} {c : Int × Int} (h : c ∈ regCells l) : cellOk c.1 c.2 = true := by
  unfold regCells at h; split at h
  · exact cellsBy_ok (Nat.le_refl _) h
  · cases h
theorem regSet_step {l : List Int} {k n : Nat} (h255 : ∀ v ∈ l, 0 ≤ v ∧ v ≤ 255) (h : l[k]? = some (n : Int)) (hk : k < 8) (hn : n ≤ 255) :
    bits BinOp.or IntKind.u64 (regSetTo l k : Int) (IntKind.u64.wrap ((n : Int) * 2 ^ (8 * k))) = (regSetTo l (k + 1) : Int) := by
  have e : (n : Int) * 2 ^ (8 * k) = ((n <<< (8 * k) : Nat) : Int) := by rw [Nat.shiftLeft_eq]; simp
  have hlt : n <<< (8 * k) < 18446744073709551616 := by
    rw [Nat.shiftLeft_eq]
    exact Nat.lt_of_lt_of_le (Nat.mul_lt_mul_of_pos_right (show n < 2 ^ 8 by omega) (Nat.two_pow_pos _)) (by rw [← Nat.pow_add]; exact Nat.pow_le_pow_right (n := 2) (by decide) (show 8 + 8 * k ≤ 64 by omega))
  have hlt2 : regSetTo l k < 18446744073709551616 := Nat.lt_of_lt_of_le (regSetTo_lt h255 k) (Nat.pow_le_pow_right (n := 2) (by decide) (show 8 * k ≤ 64 by omega))
  have e3 : ∀ z : Nat, z < 18446744073709551616 → (z : Int) % 18446744073709551616 = z := fun z hz => by omega
  rw [e, IntKind.wrap_u64, e3 _ hlt, u64_or_nat _ _ hlt2 hlt, regSetTo, h]
  rfl
set_option maxHeartbeats 1000000 in
theorem rset_any (A : Option Addr) (c : Nat) (l : List Int) (w : World) (h : regOk l = true) (hr : RdI w A l) :
    Calls Try.prog 121 #[.agg #[.slice A l.length c]] w fun e w' => e = .returned (.int .u64 (regSet l)) ∧ Below w.heap.size w w' := by
  (have hB := Below.refl w.heap.size w; have P := Blk.new w 31 [.slice A l.length c]; have Pc := P.c1)
  have h2 := regOk_iff.1 h
  have hl8 : l.length ≤ 8 := h2.1
  have h255 := Lib.hid h2.2
  have hr' := Lib.hid hr
  have hX := bl_alloc (Below.refl w.heap.size w) (.cells #[.slice A l.length c] 31)
  clear hr h2 h
  go_enter Try.func121, Try.ntmps121
  go_wp2
  go_loop [3, 9] (fun s i => ∃ k : Nat, k ≤ l.length ∧ i = .int .i64 k ∧ s = .int .u64 (regSetTo l k : Int)) (fun _ i => l.length - (intOf i).toNat)
  case atStart => exact ⟨0, by omega, rfl, rfl⟩
  case round =>
    obtain ⟨k, hk, rfl, rfl⟩ := hrel
    by_cases hlt : k < l.length
    · obtain ⟨b', off, v, rfl, hbl, hv, hd, _, hcc⟩ := (hr'.out.below hX).at_ hlt
      obtain ⟨n, rfl, hn⟩ := row_nat h255.out hv
      have hs := Lib.hid (regSet_step h255.out hv (by omega) hn)
      clear hv hd hX
      go_wp2
      go_round
      case rel => exact ⟨k + 1, by omega, by go_num, by rw [← hs.out]⟩
      case measure => simp [intOf]; omega
    · have hkl : k = l.length := by omega
      subst hkl
      go_wp2
      go_ret
      exact ⟨rfl, by go_grown⟩
theorem CellsOf_i (A : Option Addr) (c : Nat) (l : List Int) (w : World) (hl : l.length ≤ 1048576) (hr : RdI w A l) :
    Calls Try.prog 99 #[.agg #[.slice A l.length c]] w fun e w' => ∃ v, e = .returned v ∧ OwC w.heap.size w' v (regCells l) ∧ Below w.heap.size w w' := by
  (have hB := Below.refl w.heap.size w; have P := Blk.new w 31 [.slice A l.length c]; have Pc := P.c1)
  have hr' := Lib.hid hr
  clear hr
  cases h : regOk l
  · have hcc : regCells l = [] := by simp [regCells, h]
    rw [hcc]
    go_enter Try.func99, Try.ntmps99
    go_wp2_with (go_at_call 98; refine (RegionOk_i A c l _ hl (hr'.out.below (bl_trans hB (by go_grown)))).mono ?_; rintro e wn ⟨rfl, hbn⟩; have hSz := bl_sz (bl_trans hB (by go_grown)) hbn; replace hB := bl_trans (bl_trans hB (by go_grown)) hbn; replace P := P.bel (bl_trans (by go_grown) hbn); replace Pc := P.c1; clear hbn)
    go_ret
    exact ⟨_, rfl, OwC.nil_ _ _, (by first | (go_grown; done) | exact bl_trans hB (by go_grown))⟩
  · have hlt := regSet_lt h
    have hcc := Lib.hid (regCells_set h)
    go_enter Try.func99, Try.ntmps99
    go_wp2_with (first | (go_at_call 98; refine (RegionOk_i A c l _ hl (hr'.out.below (bl_trans hB (by go_grown)))).mono ?_; rintro e wn ⟨rfl, hbn⟩; have hSz := bl_sz (bl_trans hB (by go_grown)) hbn; replace hB := bl_trans (bl_trans hB (by go_grown)) hbn; replace P := P.bel (bl_trans (by go_grown) hbn); replace Pc := P.c1; clear hbn) | (go_at_call 121; refine (rset_any A c l _ h (hr'.out.below (bl_trans hB (by go_grown)))).mono ?_; rintro e wn ⟨rfl, hbn⟩; have hSz := bl_sz (bl_trans hB (by go_grown)) hbn; replace hB := bl_trans (bl_trans hB (by go_grown)) hbn; replace P := P.bel (bl_trans (by go_grown) hbn); replace Pc := P.c1; clear hbn))
    (refine (cells_any (regSet l) _ hlt).mono ?_; rintro e wn ⟨v, rfl, o1, hbn⟩; have hSz := bl_sz (bl_trans hB (by go_grown)) hbn; replace hB := bl_trans (bl_trans hB (by go_grown)) hbn; replace P := P.bel (bl_trans (by go_grown) hbn); replace Pc := P.c1; clear hbn)
    go_wp2_with fail
    go_ret
    exact ⟨_, rfl, by rw [hcc.out]; exact o1.mono hSz, (by first | (go_grown; done) | exact bl_trans hB (by go_grown))⟩
theorem CountCells_i (A : Option Addr) (c : Nat) (l : List Int) (w : World) (hl : l.length ≤ 1048576) (hr : RdI w A l) :
    Calls Try.prog 123 #[.agg #[.slice A l.length c]] w fun e w' => e = .returned (.int .i64 (regCells l).length) ∧ Below w.heap.size w w' := by
  (have hB := Below.refl w.heap.size w; have P := Blk.new w 31 [.slice A l.length c]; have Pc := P.c1)
  have hr' := Lib.hid hr
  clear hr
  go_enter Try.func123, Try.ntmps123
  go_wp2_with fail
  (refine (CellsOf_i A c l _ hl (hr'.out.below (bl_trans hB (by go_grown)))).mono ?_; rintro e wn ⟨v, rfl, ⟨⟨A1, c1, rfl⟩, o1, p1⟩, hbn⟩; have hSz := bl_sz (bl_trans hB (by go_grown)) hbn; replace hB := bl_trans (bl_trans hB (by go_grown)) hbn; replace P := P.bel (bl_trans (by go_grown) hbn); replace Pc := P.c1; clear hbn)
  go_wp2_with fail
  go_ret
  exact ⟨rfl, (by first | (go_grown; done) | exact bl_trans hB (by go_grown))⟩
theorem CountCells_s (A : Option Addr) (c : Nat) (l : List Int) (w : World) (hl : l.length ≤ 1048576) (hr : RdI w A l) :
    Calls Try.prog 75 #[.agg #[.slice A l.length c]] w fun e w' => e = .returned (.int .i64 (regCells l).length) ∧ Below w.heap.size w w' := by
  (have hB := Below.refl w.heap.size w; have P := Blk.new w 31 [.slice A l.length c]; have Pc := P.c1)
  have hr' := Lib.hid hr
  clear hr
  go_enter Try.func75, Try.ntmps75
  go_wp2_with fail
  (refine (CellsOf_s A c l _ hl (hr'.out.below (bl_trans hB (by go_grown)))).mono ?_; rintro e wn ⟨v, rfl, ⟨⟨A1, c1, rfl⟩, o1, p1⟩, hbn⟩; have hSz := bl_sz (bl_trans hB (by go_grown)) hbn; replace hB := bl_trans (bl_trans hB (by go_grown)) hbn; replace P := P.bel (bl_trans (by go_grown) hbn); replace Pc := P.c1; clear hbn)
  go_wp2_with fail
  go_ret
  exact ⟨rfl, (by first | (go_grown; done) | exact bl_trans hB (by go_grown))⟩
def setL (l : List (Int × Int)) : Nat := l.foldl (fun s c => s ||| nthBit c.1 c.2) 0
theorem setL_snoc (l : List (Int × Int)) (c : Int × Int) : setL (l ++ [c]) = setL l ||| nthBit c.1 c.2 := by simp [setL]
theorem setL_lt {l : List (Int × Int)} (h : ∀ c ∈ l, cellOk c.1 c.2 = true) : setL l < 18446744073709551616 := by
  have : ∀ (l : List (Int × Int)) (s : Nat), s < 18446744073709551616 → (∀ c ∈ l, cellOk c.1 c.2 = true) → l.foldl (fun s c => s ||| nthBit c.1 c.2) s < 18446744073709551616 := by
    intro l
    induction l with
    | nil => intro s hs _; exact hs
    | cons c l ih => intro s hs h; exact ih _ (or_lt hs (nthBit_lt (h c (List.mem_cons_self ..)))) (fun d hd => h d (List.mem_cons_of_mem _ hd))
  exact this l 0 (by decide) h
set_option maxHeartbeats 1000000 in
theorem setOf_any (A : Option Addr) (c : Nat) (l : List (Int × Int)) (w : World) (hl : l.length ≤ 1048576) (hr : RdC w A l) (hok : ∀ c ∈ l, cellOk c.1 c.2 = true) :
    Calls Try.prog 122 #[.slice A l.length c] w fun e w' => e = .returned (.int .u64 (setL l)) ∧ Below w.heap.size w w' := by
  have hr' := Lib.hid hr
  have hok' := Lib.hid hok
  clear hr hok
  go_enter Try.func122, Try.ntmps122
  go_wp2
  go_loopw [3, 8] (fun s i wr => ∃ k : Nat, k ≤ l.length ∧ i = .int .i64 k ∧ s = .int .u64 (setL (l.take k) : Int) ∧ Below w.heap.size w wr) (fun _ i _ => l.length - (intOf i).toNat)
  case atStart => exact ⟨0, by omega, rfl, rfl, Below.refl _ _⟩
  case round =>
    obtain ⟨k, hk, rfl, rfl, hB⟩ := hrel
    by_cases hlt : k < l.length
    · obtain ⟨b', off, x, y, rfl, hbl, hv, hd, _, _, hc0, hc1⟩ := (hr'.out.below hB).at_ hlt
      have hs : setL (l.take (k + 1)) = setL (l.take k) ||| nthBit x y := by rw [take_snoc_at hv, setL_snoc]
      have hsl : setL (l.take k) < 18446744073709551616 := setL_lt fun c hc => hok'.out c (List.mem_of_mem_take hc)
      have hxy : cellOk x y = true := hok'.out (x, y) (List.mem_of_getElem? hv)
      have hs' := Lib.hid hs
      have Hb := Lib.hid hB
      have P := Blk.new wr 35 [.int .i64 x, .int .i64 y]
      have Pc := P.c2
      clear hs hv hd hB
      go_wp2_with (go_at_call 178; refine (with_any _ _ _ _ hsl hxy).mono ?_; rintro e wn ⟨rfl, hbn⟩)
      go_roundw
      case rel => exact ⟨k + 1, by omega, by go_num, by rw [hs'.out], bl_trans (bl_alloc Hb.out _) hbn⟩
      case measure => simp [intOf]; omega
    · have hkl : k = l.length := by omega
      subst hkl
      go_wp2
      go_ret
      exact ⟨ret_int (by rw [List.take_length]), hB⟩
end Go.Proofs.Ytdcjhfmkkcakhaa

/-
  Contracts of the functions on neighbors of cells and doors of regions (NeighborsOf, HasCell, DoorsOf): what each returns, as a function of its arguments; nothing that was there is written; at most 1048576 rows.
-/
import Derived.Test.YtdcjhfmkkcakhaaSets
import Derived.Test.YtdcjhfmkkcakhaaIn
namespace Go.Proofs.Ytdcjhfmkkcakhaa
open Go.ChangeShapes Go.WideShapes Go.ChangeAt Go.RowKit Go.Deep
set_option linter.unusedVariables false

def nbrs (x y : Int) : List (Int × Int) := cellsBy (fun k => nbr x y (cellOf k).1 (cellOf k).2) 64
def cand (x y : Int) : List (Int × Int) := [(x, y - 1), (x - 1, y), (x + 1, y), (x, y + 1)]
def okC (c : Int × Int) : Bool := cellOk c.1 c.2
theorem cell_nat {x y : Int} (h : cellOk x y = true) : ∃ k : Nat, k < 64 ∧ (x, y) = cellOf k := by
  have := cellOk_iff.1 h
  refine ⟨(y * 8 + x).toNat, by omega, ?_⟩
  unfold cellOf
  rw [Prod.mk.injEq]
  constructor
  · omega
  · omega
theorem cand_all : ∀ k : Fin 64, (cand (cellOf k.1).1 (cellOf k.1).2).filter okC = nbrs (cellOf k.1).1 (cellOf k.1).2 := by decide +kernel
theorem cand_nbrs {x y : Int} (h : cellOk x y = true) : (cand x y).filter okC = nbrs x y := by
  obtain ⟨k, hk, e⟩ := cell_nat h
  have := cand_all ⟨k, hk⟩
  rw [← e] at this
  exact this
theorem nbrs_len (x y : Int) : (nbrs x y).length ≤ 64 := cellsBy_len _ _
theorem nbrs_ok {x y : Int} {c : Int × Int} (h : c ∈ nbrs x y) : cellOk c.1 c.2 = true := cellsBy_ok (Nat.le_refl _) h
set_option maxHeartbeats 1000000 in
theorem NeighborsOf_s (x y : Int) (w : World) :
    Calls Try.prog 175 #[.agg #[.int .i64 x, .int .i64 y]] w fun e w' => ∃ v, e = .returned v ∧ OwC w.heap.size w' v (nbrs x y) ∧ Below w.heap.size w w' := by
  have P := (Blk.new w 35 [.int .i64 x, .int .i64 y]).alloc (.cells #[] 35)
  have ho := Lib.hid (OwC.new_ (B := w.heap.size + 1) (w := w.alloc (.cells #[.int .i64 x, .int .i64 y] 35)) (by simp))
  go_enter Try.func175, Try.ntmps175
  go_wp2
  go_loopw [3, 4] (fun v i wr => ∃ k : Nat, k ≤ 64 ∧ i = .int .i64 k ∧ OwC (w.heap.size + 1) wr v (cellsBy (fun k => nbr x y (cellOf k).1 (cellOf k).2) k) ∧ Blk wr w.heap.size 35 [.int .i64 x, .int .i64 y] ∧ Below w.heap.size w wr) (fun _ i _ => 64 - (intOf i).toNat)
  case atStart => exact ⟨0, by omega, rfl, by simpa [cellsBy] using ho.out, P, by go_grown⟩
  case round =>
    obtain ⟨k, hk, rfl, hown, P', hB⟩ := hrel
    clear P ho
    have P := P'
    have Pc := P.c2
    clear P'
    by_cases hlt : k < 64
    · have hs := Lib.hid (cellsBy_succ (fun k => nbr x y (cellOf k).1 (cellOf k).2) k)
      have hlen := cellsBy_len (fun k => nbr x y (cellOf k).1 (cellOf k).2) k
      have hE := cellOf_i64 k hlt
      have Ho := Lib.hid hown
      clear hown
      cases ht : nbr x y (cellOf k).1 (cellOf k).2
      · go_wp2_with (first | (go_at_call 100; refine (CellAt_s k _ hlt).mono ?_; rintro e wn ⟨rfl, hbn⟩; have hSz := bl_sz (bl_trans hB (by go_grown)) hbn; replace hB := bl_trans (bl_trans hB (by go_grown)) hbn; replace P := P.bel (bl_trans (by go_grown) hbn); replace Pc := P.c2; replace Ho := Lib.hid (Ho.out.bel hbn); have Q := Blk.new wn 35 [.int .i64 (cellOf k).1, .int .i64 (cellOf k).2]; have Qc := Q.c2; replace P := P.alloc (.cells #[.int .i64 (cellOf k).1, .int .i64 (cellOf k).2] 35); replace Pc := P.c2; replace Ho := Lib.hid (Ho.out.bel (Below.alloc (Below.refl _ _) (Nat.le_refl _) (.cells #[.int .i64 (cellOf k).1, .int .i64 (cellOf k).2] 35))); clear hbn) | (go_at_call 181; refine (AreNeighbors_s x y (cellOf k).1 (cellOf k).2 _).mono ?_; rintro e wn ⟨rfl, hbn⟩; have hSz := bl_sz (bl_trans hB (by go_grown)) hbn; replace hB := bl_trans (bl_trans hB (by go_grown)) hbn; replace P := P.bel (bl_trans (by go_grown) hbn); replace Pc := P.c2; replace Q := Q.bel (bl_trans (by go_grown) hbn); replace Qc := Q.c2; replace Ho := Lib.hid (Ho.out.bel hbn); clear hbn))
        go_roundw
        case rel => exact ⟨k + 1, by omega, by go_num, by rw [hs.out, ht, if_neg (by decide), List.append_nil]; exact Ho.out, P, hB⟩
        case measure => simp [intOf]; omega
      · go_wp2_with (first | (go_at_call 100; refine (CellAt_s k _ hlt).mono ?_; rintro e wn ⟨rfl, hbn⟩; have hSz := bl_sz (bl_trans hB (by go_grown)) hbn; replace hB := bl_trans (bl_trans hB (by go_grown)) hbn; replace P := P.bel (bl_trans (by go_grown) hbn); replace Pc := P.c2; replace Ho := Lib.hid (Ho.out.bel hbn); have Q := Blk.new wn 35 [.int .i64 (cellOf k).1, .int .i64 (cellOf k).2]; have Qc := Q.c2; replace P := P.alloc (.cells #[.int .i64 (cellOf k).1, .int .i64 (cellOf k).2] 35); replace Pc := P.c2; replace Ho := Lib.hid (Ho.out.bel (Below.alloc (Below.refl _ _) (Nat.le_refl _) (.cells #[.int .i64 (cellOf k).1, .int .i64 (cellOf k).2] 35))); clear hbn) | (go_at_call 181; refine (AreNeighbors_s x y (cellOf k).1 (cellOf k).2 _).mono ?_; rintro e wn ⟨rfl, hbn⟩; have hSz := bl_sz (bl_trans hB (by go_grown)) hbn; replace hB := bl_trans (bl_trans hB (by go_grown)) hbn; replace P := P.bel (bl_trans (by go_grown) hbn); replace Pc := P.c2; replace Q := Q.bel (bl_trans (by go_grown) hbn); replace Qc := Q.c2; replace Ho := Lib.hid (Ho.out.bel hbn); clear hbn) | (at_builtin; refine wpList_atC rfl (.tmp 20) (.tmp 22) rfl (w.heap.size + 1) _ (cellsBy _ k) (cellOf k).1 (cellOf k).2 rfl rfl Ho.out P.lt (by omega) hE.1 hE.2 ?_; intro v' w1 ho1 hb1 hg1 hat1 hsz1))
        go_roundw
        case rel => exact ⟨k + 1, by omega, by go_num, by rw [hs.out, ht, if_pos rfl]; exact ho1, P.below (hb1 _ (Below.refl _ _)) (by omega), hB.trans ((hb1 _ (Below.refl _ _)).mono (by omega))⟩
        case measure => simp [intOf]; omega
    · have hk4 : k = 64 := by omega
      subst hk4
      go_wp2
      go_ret
      exact ⟨_, rfl, hown.mono (by omega), hB⟩
theorem cand_i64 {x y : Int} (h : cellOk x y = true) : ∀ c ∈ cand x y, I64 c.1 ∧ I64 c.2 := by
  have := cellOk_iff.1 h
  intro c hc
  simp only [cand, List.mem_cons, List.not_mem_nil, or_false] at hc
  rcases hc with rfl | rfl | rfl | rfl <;> exact ⟨⟨by dsimp only; omega, by dsimp only; omega⟩, ⟨by dsimp only; omega, by dsimp only; omega⟩⟩
set_option maxHeartbeats 2000000 in
theorem NeighborsOf_i (x y : Int) (w : World) :
    Calls Try.prog 162 #[.agg #[.int .i64 x, .int .i64 y]] w fun e w' => ∃ v, e = .returned v ∧ OwC w.heap.size w' v (nbrs x y) ∧ Below w.heap.size w w' := by
  (have hB := Below.refl w.heap.size w; have P := Blk.new w 35 [.int .i64 x, .int .i64 y]; have Pc := P.c2)
  cases h : cellOk x y
  · go_enter Try.func162, Try.ntmps162
    go_wp2_with (go_at_call 102; refine (CellOk_i _ _ _).mono ?_; rintro e wn ⟨rfl, hbn⟩; have hSz := bl_sz (bl_trans hB (by go_grown)) hbn; replace hB := bl_trans (bl_trans hB (by go_grown)) hbn; replace P := P.bel (bl_trans (by go_grown) hbn); replace Pc := P.c2; clear hbn)
    go_ret
    refine ⟨_, rfl, ?_, (by first | (go_grown; done) | exact bl_trans hB (by go_grown))⟩
    rw [show nbrs x y = [] by simp [nbrs, nbr, h, cellsBy]]
    exact OwC.nil_ _ _
  · have hc := cellOk_iff.1 h
    have hcn := Lib.hid (cand_nbrs h)
    have hci := Lib.hid (cand_i64 h)
    go_enter Try.func162, Try.ntmps162
    go_wp2_with (go_at_call 102; refine (CellOk_i _ _ _).mono ?_; rintro e wx ⟨rfl, hbn⟩; have hSz := bl_sz (bl_trans hB (by go_grown)) hbn; replace hB := bl_trans (bl_trans hB (by go_grown)) hbn; replace P := P.bel (bl_trans (by go_grown) hbn); replace Pc := P.c2; replace P := P.alloc (.cells #[] 35); replace Pc := P.c2; have hxw := hB.size; clear hbn)
    have ho := Lib.hid ((OwC.new_ (B := w.heap.size) (w := wx) hxw).alloc' (.cells ((cand x y).flatMap cC).toArray 35))
    have M := Blk.new (wx.alloc (.cells #[] 35)) 35 ((cand x y).flatMap cC)
    rw [World.size_alloc] at M
    have hlen4 : (cand x y).length = 4 := rfl
    replace hB := bl_alloc (bl_alloc hB (.cells #[] 35)) (.cells ((cand x y).flatMap cC).toArray 35)
    go_loopw [3, 36] (fun v i wr => ∃ j : Nat, j ≤ 4 ∧ i = .int .i64 j ∧ OwC w.heap.size wr v (((cand x y).take j).filter okC) ∧ (∀ k, v.ownBlock = some k → k ≠ wx.heap.size + 1) ∧ Blk wr (wx.heap.size + 1) 35 ((cand x y).flatMap cC) ∧ Below w.heap.size w wr) (fun _ i _ => 4 - (intOf i).toNat)
    case atStart => exact ⟨0, by omega, rfl, ho.out, (by intro k hk; simp [Value.ownBlock] at hk; omega), M, hB⟩
    case round =>
      obtain ⟨j, hj, rfl, own, hne, M', hB'⟩ := hrel
      clear P Pc hB ho M
      have M := M'
      have hB := hB'
      clear M' hB'
      by_cases hlt : j < 4
      · have hM : RdC wr (some ⟨wx.heap.size + 1, 0, none⟩) (cand x y) := ⟨M.rd (flatMap_len cC 2 (fun _ => rfl) _), hci.out⟩
        obtain ⟨b', off, a, b, e1, hbl, hv, hd, ga, gb, c0, c1⟩ := hM.at_ (k := j) (by omega)
        injection e1 with e1
        injection e1 with e1 e2
        subst e1
        subst e2
        simp only [Nat.zero_add] at c0 c1
        have htk := Lib.hid (take_snoc_at hv)
        have Q := Blk.new wr 35 [.int .i64 a, .int .i64 b]
        have Qc := Q.c2
        replace M := M.alloc (.cells #[.int .i64 a, .int .i64 b] 35)
        have Ho := Lib.hid (own.alloc' (.cells #[.int .i64 a, .int .i64 b] 35))
        have hl4 : (((cand x y).take j).filter okC).length ≤ 4 := Nat.le_trans (List.length_filter_le _ _) (by rw [List.length_take]; omega)
        have hne' := Lib.hid hne
        clear own hv hd hM hne
        cases hok : cellOk a b
        · go_wp2_with (go_at_call 102; refine (CellOk_i _ _ _).mono ?_; rintro e wn ⟨rfl, hbn⟩; have hSz := bl_sz (bl_trans hB (by go_grown)) hbn; replace hB := bl_trans (bl_trans hB (by go_grown)) hbn; replace Q := Q.bel (bl_trans (by go_grown) hbn); replace Qc := Q.c2; replace M := M.bel hbn; replace Ho := Lib.hid (Ho.out.bel hbn); clear hbn)
          go_roundw
          case rel => exact ⟨j + 1, by omega, by go_num, by rw [htk.out, List.filter_append]; simp only [List.filter_cons, List.filter_nil, okC, hok, Bool.false_eq_true, if_false, List.append_nil]; exact Ho.out, hne'.out, M, hB⟩
          case measure => simp [intOf]; omega
        · go_wp2_with (first | (go_at_call 102; refine (CellOk_i _ _ _).mono ?_; rintro e wn ⟨rfl, hbn⟩; have hSz := bl_sz (bl_trans hB (by go_grown)) hbn; replace hB := bl_trans (bl_trans hB (by go_grown)) hbn; replace Q := Q.bel (bl_trans (by go_grown) hbn); replace Qc := Q.c2; replace M := M.bel hbn; replace Ho := Lib.hid (Ho.out.bel hbn); clear hbn) | (at_builtin; refine wpList_atC rfl (.tmp 42) (.tmp 44) rfl w.heap.size _ (((cand x y).take j).filter okC) a b rfl rfl Ho.out hB.size (by omega) ga gb ?_; intro v' w1 ho1 hb1 hg1 hat1 hsz1))
          go_roundw
          case rel => exact ⟨j + 1, by omega, by go_num, by rw [htk.out, List.filter_append]; simp only [List.filter_cons, List.filter_nil, okC, hok, if_true]; exact ho1, (fun k hk => by
            rcases hat1 with h1 | h1
            · rw [h1] at hk; exact hne'.out k hk
            · rw [h1] at hk; injection hk with hk; have := M.lt; omega), (hg1.block _ M.lt (fun e => hne'.out _ e.symm rfl)).trans M, hb1 _ hB⟩
          case measure => simp [intOf]; omega
      · have hk4 : j = 4 := by omega
        subst hk4
        have own' := Lib.hid own
        clear own
        go_wp2
        go_ret
        refine ⟨_, rfl, ?_, hB⟩
        rw [← hcn.out]
        exact own'.out
theorem hasBit_reg {l : List Int} (h : regOk l = true) (x y : Int) : hasBit (regSet l) x y = (cellOk x y && regHas l x y) := by
  unfold hasBit
  cases hc : cellOk x y
  · rfl
  · have i1 := cellOk_iff.1 hc
    rw [Bool.true_and, Bool.true_and, regSet_bit h]
    have e : cellOf (y * 8 + x).toNat = (x, y) := by
      unfold cellOf
      rw [Prod.mk.injEq]
      constructor
      · omega
      · omega
    rw [e]
set_option maxHeartbeats 2000000 in
theorem HasCell_i (A : Option Addr) (c : Nat) (l : List Int) (x y : Int) (w : World) (hl : l.length ≤ 1048576) (hr : RdI w A l) :
    Calls Try.prog 163 #[.agg #[.slice A l.length c], .agg #[.int .i64 x, .int .i64 y]] w fun e w' => e = .returned (.bool (regOk l && cellOk x y && regHas l x y)) ∧ Below w.heap.size w w' := by
  (have hB := Below.refl w.heap.size w; have P := (Blk.new w 31 [.slice A l.length c]).alloc (.cells #[.int .i64 x, .int .i64 y] 35); have Pc := P.c1; have Q := Blk.new2 w (.cells #[.slice A l.length c] 31) 35 [.int .i64 x, .int .i64 y]; have Qc := Q.c2)
  have hX := bl_alloc (bl_alloc (Below.refl w.heap.size w) (.cells #[.slice A l.length c] 31)) (.cells #[.int .i64 x, .int .i64 y] 35)
  have HR := Lib.hid (hr.below hX)
  have p0 := bq_cell Pc
  have q0 := bq_cell Qc.1
  have q1 := bq_cell Qc.2
  clear hr Pc Qc
  cases h1 : regOk l
  · have h1' := Lib.hid h1
    clear h1
    go_enter Try.func163, Try.ntmps163
    go_wp2
    (refine wp_region_quiet_bel (by kernel_rfl) (by kernel_rfl) ?_; (repeat (first | go_big_quiet_step ((go_at_call 98; exact Calls.bel_of ((RegionOk_i A c l _ hl (HR.out.below (BelowOf.bel _))).mono (fun e w' h => ⟨h.1.trans (ret_bool h1'.out), h.2⟩)))) | quiet_step ((go_at_call 98; exact Calls.bel_of ((RegionOk_i A c l _ hl (HR.out.below (BelowOf.bel _))).mono (fun e w' h => ⟨h.1.trans (ret_bool h1'.out), h.2⟩)))))); refine wpQuiet_nil ?_; intro wq hw0; obtain ⟨⟨_, hbq⟩, hw1⟩ := hw0; subst hw1; try dsimp only)
    go_wp2
    go_ret
    exact ⟨ret_bool (by simp), bl_trans hX hbq⟩
  · have h1' := Lib.hid h1
    have hh := Lib.hid (hasBit_reg h1 x y)
    have hlt := regSet_lt h1
    clear h1
    go_enter Try.func163, Try.ntmps163
    go_wp2
    (refine wp_region_quiet_bel (by kernel_rfl) (by kernel_rfl) ?_; (repeat (first | go_big_quiet_step (first | (go_at_call 98; exact Calls.bel_of ((RegionOk_i A c l _ hl (HR.out.below (BelowOf.bel _))).mono (fun e w' h => ⟨h.1.trans (ret_bool h1'.out), h.2⟩))) | (go_at_call 121; exact Calls.bel_of (rset_any A c l _ h1'.out (HR.out.below (BelowOf.bel _)))) | (go_at_call 126; exact Calls.bel_of (has_any _ _ _ _ hlt))) | quiet_step (first | (go_at_call 98; exact Calls.bel_of ((RegionOk_i A c l _ hl (HR.out.below (BelowOf.bel _))).mono (fun e w' h => ⟨h.1.trans (ret_bool h1'.out), h.2⟩))) | (go_at_call 121; exact Calls.bel_of (rset_any A c l _ h1'.out (HR.out.below (BelowOf.bel _)))) | (go_at_call 126; exact Calls.bel_of (has_any _ _ _ _ hlt))))); refine wpQuiet_nil ?_; intro wq hw0; obtain ⟨⟨_, hbq⟩, hw1⟩ := hw0; subst hw1; try dsimp only)
    go_wp2
    go_ret
    exact ⟨ret_bool (by rw [hh.out]; simp), bl_trans hX hbq⟩
def deg (rs : List Int) (c : Int × Int) : Nat := ((nbrs c.1 c.2).filter fun d => regHas rs d.1 d.2).length
def degTo (rs : List Int) (l : List (Int × Int)) : Nat := (l.filter fun d => regHas rs d.1 d.2).length
theorem degTo_snoc (rs : List Int) (l : List (Int × Int)) (d : Int × Int) : degTo rs (l ++ [d]) = degTo rs l + (if regHas rs d.1 d.2 then 1 else 0) := by
  unfold degTo
  rw [List.filter_append, List.length_append]
  cases h : regHas rs d.1 d.2 <;> simp [h]
theorem degTo_le (rs : List Int) (l : List (Int × Int)) : degTo rs l ≤ l.length := List.length_filter_le _ _
def doors (rs : List Int) : List (Int × Int) := (regCells rs).filter fun c => decide (deg rs c < 4)
theorem doors_len (rs : List Int) : (doors rs).length ≤ 64 := Nat.le_trans (List.length_filter_le _ _) (regCells_len rs)
theorem regCells_none {l : List Int} (h : regOk l = false) : regCells l = [] := by simp [regCells, h]
theorem regCells_i64 {l : List Int} {c : Int × Int} (h : c ∈ regCells l) : I64 c.1 ∧ I64 c.2 := by
  have := cellOk_iff.1 (regCells_ok h)
  exact ⟨⟨by omega, by omega⟩, ⟨by omega, by omega⟩⟩
set_option maxRecDepth 100000 in
set_option maxHeartbeats 4000000 in
theorem DoorsOf_i (A : Option Addr) (c : Nat) (l : List Int) (w : World) (hl : l.length ≤ 1048576) (hr : RdI w A l) :
    Calls Try.prog 78 #[.agg #[.slice A l.length c]] w fun e w' => ∃ v, e = .returned v ∧ OwC w.heap.size w' v (doors l) ∧ Below w.heap.size w w' := by
  (have hB := Below.refl w.heap.size w; have P := Blk.new w 31 [.slice A l.length c]; have Pc := P.c1)
  have hr' := Lib.hid hr
  clear hr
  cases h : regOk l
  · go_enter Try.func78, Try.ntmps78
    go_wp2_with (go_at_call 98; refine (RegionOk_i A c l _ hl (hr'.out.below (bl_trans hB (by go_grown)))).mono ?_; rintro e wn ⟨rfl, hbn⟩; have hSz := bl_sz (bl_trans hB (by go_grown)) hbn; replace hB := bl_trans (bl_trans hB (by go_grown)) hbn; replace P := P.bel (bl_trans (by go_grown) hbn); replace Pc := P.c1; clear hbn)
    go_ret
    exact ⟨_, rfl, by rw [doors, regCells_none h]; exact OwC.nil_ _ _, (by first | (go_grown; done) | exact bl_trans hB (by go_grown))⟩
  · have hcl := regCells_len l
    go_enter Try.func78, Try.ntmps78
    go_wp2_with (go_at_call 98; refine (RegionOk_i A c l _ hl (hr'.out.below (bl_trans hB (by go_grown)))).mono ?_; rintro e wx ⟨rfl, hbn⟩; have hSz := bl_sz (bl_trans hB (by go_grown)) hbn; replace hB := bl_trans (bl_trans hB (by go_grown)) hbn; replace P := P.bel (bl_trans (by go_grown) hbn); replace Pc := P.c1; have hxw := P.lt; replace P := P.alloc (.cells #[] 35); replace Pc := P.c1; have ho := Lib.hid (OwC.new_ (B := w.heap.size + 1) (w := wx) hxw); clear hbn)
    (refine (CellsOf_i A c l _ hl (hr'.out.below (bl_trans hB (by go_grown)))).mono ?_; rintro e wy ⟨v, rfl, o1, hbn⟩; have hSz := bl_sz (bl_trans hB (by go_grown)) hbn; replace hB := bl_trans (bl_trans hB (by go_grown)) hbn; replace P := P.bel (bl_trans (by go_grown) hbn); replace Pc := P.c1; replace ho := Lib.hid (ho.out.bel hbn); have hsx := hbn.size; clear hbn)
    obtain ⟨⟨A1, c1, rfl⟩, _⟩ := id o1
    rw [World.size_alloc] at hsx
    have o2 := Lib.hid (o1.in_ (lo' := wx.heap.size + 1) (by simp))
    clear o1
    go_wp2_with fail
    go_loopw [3, 16] (fun v i wr => ∃ j : Nat, j ≤ (regCells l).length ∧ i = .int .i64 j ∧ OwC (w.heap.size + 1) wr v (((regCells l).take j).filter fun c => decide (deg l c < 4)) ∧ (∀ k, v.ownBlock = some k → k < wx.heap.size + 1 ∨ wy.heap.size ≤ k) ∧ InC (wx.heap.size + 1) wy.heap.size wr (.slice A1 (regCells l).length c1) (regCells l) ∧ wy.heap.size ≤ wr.heap.size ∧ Blk wr w.heap.size 31 [.slice A l.length c] ∧ Below w.heap.size w wr) (fun _ i _ => (regCells l).length - (intOf i).toNat)
    case atStart => exact ⟨0, by omega, rfl, ho.out, (by intro k hk; simp [Value.ownBlock] at hk; omega), o2.out, Nat.le_refl _, P, hB⟩
    case round =>
      obtain ⟨j, hj, rfl, own, hne, hin, hys, P', hB'⟩ := hrel
      clear P Pc hB ho o2
      have P := P'
      have hB := hB'
      clear P' hB'
      by_cases hlt : j < (regCells l).length
      · obtain ⟨b', off, x, y, rfl, hbl, hv, hd, ga, gb, c0, c2⟩ := hin.rd.at_ hlt
        have htk := Lib.hid (take_snoc_at hv)
        have hl64 : (((regCells l).take j).filter fun c => decide (deg l c < 4)).length ≤ 64 := Nat.le_trans (List.length_filter_le _ _) (by rw [List.length_take]; omega)
        have Q := Blk.new wr 35 [.int .i64 x, .int .i64 y]
        have Qc := Q.c2
        replace P := P.alloc (.cells #[.int .i64 x, .int .i64 y] 35)
        have Pc := P.c1
        have Ho := Lib.hid (own.alloc' (.cells #[.int .i64 x, .int .i64 y] 35))
        have Hin := Lib.hid (hin.bel (Below.alloc (Below.refl _ _) (Nat.le_refl _) (.cells #[.int .i64 x, .int .i64 y] 35)))
        have hne' := Lib.hid hne
        obtain ⟨gq, hgq⟩ : ∃ g, g = wr.heap.size := ⟨_, rfl⟩
        have hqw : w.heap.size + 1 ≤ gq := by rw [hgq]; have := P.lt; simp at this; omega
        have hyq : wy.heap.size ≤ gq := by rw [hgq]; exact hys
        clear own hv hd hne hin
        go_wp2_with fail
        (refine (NeighborsOf_i x y _).mono ?_; rintro e wz ⟨vn, rfl, on, hbn⟩; have hSz := bl_sz (bl_trans hB (by go_grown)) hbn; replace hB := bl_trans (bl_trans hB (by go_grown)) hbn; replace P := P.bel (bl_trans (by go_grown) hbn); replace Pc := P.c1; replace Q := Q.bel (bl_trans (by go_grown) hbn); replace Qc := Q.c2; replace Ho := Lib.hid (Ho.out.bel hbn); replace Hin := Lib.hid (Hin.out.bel hbn); have hsz := hbn.size; clear hbn)
        rw [World.size_alloc] at hsz
        have hnl := nbrs_len x y
        obtain ⟨⟨A3, c3, rfl⟩, _⟩ := id on
        have R3 := Lib.hid on.rd
        clear on c0 c2
        have hBz := hB
        go_wp2_with fail
        go_loopw [6, 23] (fun n i wr' => ∃ m : Nat, m ≤ (nbrs x y).length ∧ i = .int .i64 m ∧ n = .int .i64 (degTo l ((nbrs x y).take m)) ∧ Below wz.heap.size wz wr') (fun _ i _ => (nbrs x y).length - (intOf i).toNat)
        case atStart => exact ⟨0, by omega, rfl, by simp [degTo], Below.refl _ _⟩
        case round =>
          obtain ⟨m, hm, rfl, rfl, hz⟩ := hrel
          have Pz := P.bel hz
          have Pzc := Pz.c1
          have hdl := degTo_le l ((nbrs x y).take m)
          have hdl2 : ((nbrs x y).take m).length ≤ 64 := by rw [List.length_take]; omega
          by_cases hmt : m < (nbrs x y).length
          · obtain ⟨b4, off4, a, b, rfl, hbl4, hv4, hd4, _, _, d0, d1⟩ := (R3.out.below hz).at_ hmt
            have hok4 : cellOk a b = true := nbrs_ok (List.mem_of_getElem? hv4)
            have hdg := Lib.hid (show degTo l ((nbrs x y).take (m + 1)) = degTo l ((nbrs x y).take m) + (if regHas l a b then 1 else 0) by rw [take_snoc_at hv4, degTo_snoc])
            have S := Blk.new wr 35 [.int .i64 a, .int .i64 b]
            have Sc := S.c2
            replace Pz := Pz.alloc (.cells #[.int .i64 a, .int .i64 b] 35)
            replace Pzc := Pz.c1
            have hBw := Lib.hid (bl_trans hBz (bl_alloc hz (.cells #[.int .i64 a, .int .i64 b] 35)))
            clear hB hBz P Pc Q Qc hv4 hd4
            cases hh : regHas l a b
            · go_wp2_with (go_at_call 163; refine (HasCell_i A c l a b _ hl (hr'.out.below hBw.out)).mono ?_; rintro e wn ⟨rfl, hbn⟩; replace hz := bl_trans (bl_alloc hz _) hbn; clear hbn)
              go_roundw
              case rel => exact ⟨m + 1, by omega, by go_num, by rw [hdg.out, hh]; simp, hz⟩
              case measure => simp [intOf]; omega
            · go_wp2_with (go_at_call 163; refine (HasCell_i A c l a b _ hl (hr'.out.below hBw.out)).mono ?_; rintro e wn ⟨rfl, hbn⟩; replace hz := bl_trans (bl_alloc hz _) hbn; clear hbn)
              go_roundw
              case rel => exact ⟨m + 1, by omega, by go_num, by rw [hdg.out, hh]; simp, hz⟩
              case measure => simp [intOf]; omega
          · have hmm : m = (nbrs x y).length := by omega
            subst hmm
            rw [List.take_length] at hdl ⊢
            have hdd : degTo l (nbrs x y) = deg l (x, y) := rfl
            rw [hdd] at hdl ⊢
            have Hoz := Lib.hid (Ho.out.bel hz)
            have Hiz := Lib.hid (Hin.out.bel hz)
            have Qz := Q.bel hz
            have Qzc := Qz.c2
            have hBr := Lib.hid (bl_trans hBz hz)
            have hgz : gq < wr.heap.size := by rw [hgq]; exact Qz.lt
            clear Ho Hin hB hBz P Pc Q Qc Pzc
            by_cases h4 : deg l (x, y) < 4
            · go_wp2_with (at_builtin; refine wpList_atC rfl (.tmp 35) (.tmp 37) rfl (w.heap.size + 1) _ (((regCells l).take j).filter fun c => decide (deg l c < 4)) x y rfl rfl Hoz.out (by omega) (by omega) ga gb ?_; intro v' w1 ho1 hb1 hg1 hat1 hsz1)
              go_roundw
              case rel => exact ⟨j + 1, by omega, by go_num, by rw [htk.out, List.filter_append]; simp only [List.filter_cons, List.filter_nil, h4, decide_true, if_true]; exact ho1, (fun k hk => by
                rcases hat1 with h1 | h1
                · rw [h1] at hk; exact hne'.out k hk
                · rw [h1] at hk; injection hk with hk; omega), Hiz.out.far hg1 hne'.out, by omega, Pz.below (hb1 _ (Below.refl _ _)) (by omega), hBr.out.trans ((hb1 _ (Below.refl _ _)).mono (by omega))⟩
              case measure => simp [intOf]; omega
            · go_wp2
              go_roundw
              case rel => exact ⟨j + 1, by omega, by go_num, by rw [htk.out, List.filter_append]; simp only [List.filter_cons, List.filter_nil, h4, decide_false, Bool.false_eq_true, if_false, List.append_nil]; exact Hoz.out, hne'.out, Hiz.out, by omega, Pz, hBr.out⟩
              case measure => simp [intOf]; omega
      · have hkl : j = (regCells l).length := by omega
        subst hkl
        rw [List.take_length] at own
        have own' := Lib.hid own
        clear own
        go_wp2
        go_ret
        exact ⟨_, rfl, own'.out.mono (by omega), hB⟩
end Go.Proofs.Ytdcjhfmkkcakhaa

/-
  Contracts of the functions on neighbors of cells and doors of regions (NeighborsOf, HasCell, DoorsOf): what each returns, as a function of its arguments; nothing that was there is written; at most 1048576 rows.
-/
import Derived.Test.YthclolooidnniaaSets
import Derived.Test.YthclolooidnniaaIn
namespace Go.Proofs.Ythclolooidnniaa
open Go.ChangeShapes Go.WideShapes Go.ChangeAt Go.RowKit Go.Deep
set_option linter.unusedVariables false

def nbrs (x y : Int) : List (Int × Int) := cellsBy (fun k => nbr x y (cellOf k).1 (cellOf k).2) 64
def cand (x y : Int) : List (Int × Int) := [(x, y - 1), (x - 1, y), (x + 1, y), (x, y + 1)]
def okC (c : Int × Int) : Bool := cellOk c.1 c.2
theorem cell_nat {x y : Int} (h : cellOk x y = true) : ∃ k : Nat, k < 64 ∧ (x, y) = cellOf k := by
  have := cellOk_iff.1 h
  refine ⟨(y * 8 + x).toNat, by omega, ?_⟩
  unfold cellOf
  rw [Prod.mk.injEq]
  constructor
  · omega
  · omega
theorem cand_all : ∀ k : Fin 64, (cand (cellOf k.1).1 (cellOf k.1).2).filter okC = nbrs (cellOf k.1).1 (cellOf k.1).2 := by decide +kernel
theorem cand_nbrs {x y : Int} (h : cellOk x y = true) : (cand x y).filter okC = nbrs x y := by
  obtain ⟨k, hk, e⟩ := cell_nat h
  have := cand_all ⟨k, hk⟩
  rw [← e] at this
  exact this
theorem nbrs_len (x y : Int) : (nbrs x y).length ≤ 64 := cellsBy_len _ _
theorem nbrs_ok {x y : Int} {c : Int × Int} (h : c ∈ nbrs x y) : cellOk c.1 c.2 = true := cellsBy_ok (Nat.le_refl _) h
set_option maxHeartbeats 1000000 in
theorem NeighborsOf_s (x y : Int) (w : World) :
    Calls Try.prog 114 #[.agg #[.int .i64 x, .int .i64 y]] w fun e w' => ∃ v, e = .returned v ∧ OwC w.heap.size w' v (nbrs x y) ∧ Below w.heap.size w w' := by
  have P := (Blk.new w 49 [.int .i64 x, .int .i64 y]).alloc (.cells #[] 49)
  have ho := Lib.hid (OwC.new_ (B := w.heap.size + 1) (w := w.alloc (.cells #[.int .i64 x, .int .i64 y] 49)) (by simp))
  go_enter Try.func114, Try.ntmps114
  go_wp2
  go_loopw [3, 4] (fun v i wr => ∃ k : Nat, k ≤ 64 ∧ i = .int .i64 k ∧ OwC (w.heap.size + 1) wr v (cellsBy (fun k => nbr x y (cellOf k).1 (cellOf k).2) k) ∧ Blk wr w.heap.size 49 [.int .i64 x, .int .i64 y] ∧ Below w.heap.size w wr) (fun _ i _ => 64 - (intOf i).toNat)
  case atStart => exact ⟨0, by omega, rfl, by simpa [cellsBy] using ho.out, P, by go_grown⟩
  case round =>
    obtain ⟨k, hk, rfl, hown, P', hB⟩ := hrel
    clear P ho
    have P := P'
    have Pc := P.c2
    clear P'
    by_cases hlt : k < 64
    · have hs := Lib.hid (cellsBy_succ (fun k => nbr x y (cellOf k).1 (cellOf k).2) k)
      have hlen := cellsBy_len (fun k => nbr x y (cellOf k).1 (cellOf k).2) k
      have hE := cellOf_i64 k hlt
      have Ho := Lib.hid hown
      clear hown
      cases ht : nbr x y (cellOf k).1 (cellOf k).2
      · go_wp2_with (first | (go_at_call 83; refine (CellAt_s k _ hlt).mono ?_; rintro e wn ⟨rfl, hbn⟩; have hSz := bl_sz (bl_trans hB (by go_grown)) hbn; replace hB := bl_trans (bl_trans hB (by go_grown)) hbn; replace P := P.bel (bl_trans (by go_grown) hbn); replace Pc := P.c2; replace Ho := Lib.hid (Ho.out.bel hbn); have Q := Blk.new wn 49 [.int .i64 (cellOf k).1, .int .i64 (cellOf k).2]; have Qc := Q.c2; replace P := P.alloc (.cells #[.int .i64 (cellOf k).1, .int .i64 (cellOf k).2] 49); replace Pc := P.c2; replace Ho := Lib.hid (Ho.out.bel (Below.alloc (Below.refl _ _) (Nat.le_refl _) (.cells #[.int .i64 (cellOf k).1, .int .i64 (cellOf k).2] 49))); clear hbn) | (go_at_call 92; refine (AreNeighbors_s x y (cellOf k).1 (cellOf k).2 _).mono ?_; rintro e wn ⟨rfl, hbn⟩; have hSz := bl_sz (bl_trans hB (by go_grown)) hbn; replace hB := bl_trans (bl_trans hB (by go_grown)) hbn; replace P := P.bel (bl_trans (by go_grown) hbn); replace Pc := P.c2; replace Q := Q.bel (bl_trans (by go_grown) hbn); replace Qc := Q.c2; replace Ho := Lib.hid (Ho.out.bel hbn); clear hbn))
        go_roundw
        case rel => exact ⟨k + 1, by omega, by go_num, by rw [hs.out, ht, if_neg (by decide), List.append_nil]; exact Ho.out, P, hB⟩
        case measure => simp [intOf]; omega
      · go_wp2_with (first | (go_at_call 83; refine (CellAt_s k _ hlt).mono ?_; rintro e wn ⟨rfl, hbn⟩; have hSz := bl_sz (bl_trans hB (by go_grown)) hbn; replace hB := bl_trans (bl_trans hB (by go_grown)) hbn; replace P := P.bel (bl_trans (by go_grown) hbn); replace Pc := P.c2; replace Ho := Lib.hid (Ho.out.bel hbn); have Q := Blk.new wn 49 [.int .i64 (cellOf k).1, .int .i64 (cellOf k).2]; have Qc := Q.c2; replace P := P.alloc (.cells #[.int .i64 (cellOf k).1, .int .i64 (cellOf k).2] 49); replace Pc := P.c2; replace Ho := Lib.hid (Ho.out.bel (Below.alloc (Below.refl _ _) (Nat.le_refl _) (.cells #[.int .i64 (cellOf k).1, .int .i64 (cellOf k).2] 49))); clear hbn) | (go_at_call 92; refine (AreNeighbors_s x y (cellOf k).1 (cellOf k).2 _).mono ?_; rintro e wn ⟨rfl, hbn⟩; have hSz := bl_sz (bl_trans hB (by go_grown)) hbn; replace hB := bl_trans (bl_trans hB (by go_grown)) hbn; replace P := P.bel (bl_trans (by go_grown) hbn); replace Pc := P.c2; replace Q := Q.bel (bl_trans (by go_grown) hbn); replace Qc := Q.c2; replace Ho := Lib.hid (Ho.out.bel hbn); clear hbn) | (at_builtin; refine wpList_atC rfl (.tmp 20) (.tmp 22) rfl (w.heap.size + 1) _ (cellsBy _ k) (cellOf k).1 (cellOf k).2 rfl rfl Ho.out P.lt (by omega) hE.1 hE.2 ?_; intro v' w1 ho1 hb1 hg1 hat1 hsz1))
        go_roundw
        case rel => exact ⟨k + 1, by omega, by go_num, by rw [hs.out, ht, if_pos rfl]; exact ho1, P.below (hb1 _ (Below.refl _ _)) (by omega), hB.trans ((hb1 _ (Below.refl _ _)).mono (by omega))⟩
        case measure => simp [intOf]; omega
    · have hk4 : k = 64 := by omega
      subst hk4
      go_wp2
      go_ret
      exact ⟨_, rfl, hown.mono (by omega), hB⟩
theorem cand_i64 {x y : Int} (h : cellOk x y = true) : ∀ c ∈ cand x y, I64 c.1 ∧ I64 c.2 := by
  have := cellOk_iff.1 h
  intro c hc
  simp only [cand, List.mem_cons, List.not_mem_nil, or_false] at hc
  rcases hc with rfl | rfl | rfl | rfl <;> exact ⟨⟨by dsimp only; omega, by dsimp only; omega⟩, ⟨by dsimp only; omega, by dsimp only; omega⟩⟩
set_option maxHeartbeats 2000000 in
theorem NeighborsOf_i (x y : Int) (w : World) :
    Calls Try.prog 120 #[.agg #[.int .i64 x, .int .i64 y]] w fun e w' => ∃ v, e = .returned v ∧ OwC w.heap.size w' v (nbrs x y) ∧ Below w.heap.size w w' := by
  (have hB := Below.refl w.heap.size w; have P := Blk.new w 49 [.int .i64 x, .int .i64 y]; have Pc := P.c2)
  cases h : cellOk x y
  · go_enter Try.func120, Try.ntmps120
    go_wp2_with (go_at_call 85; refine (CellOk_i _ _ _).mono ?_; rintro e wn ⟨rfl, hbn⟩; have hSz := bl_sz (bl_trans hB (by go_grown)) hbn; replace hB := bl_trans (bl_trans hB (by go_grown)) hbn; replace P := P.bel (bl_trans (by go_grown) hbn); replace Pc := P.c2; clear hbn)
    go_ret
    refine ⟨_, rfl, ?_, (by first | (go_grown; done) | exact bl_trans hB (by go_grown))⟩
    rw [show nbrs x y = [] by simp [nbrs, nbr, h, cellsBy]]
    exact OwC.nil_ _ _
  · have hc := cellOk_iff.1 h
    have hcn := Lib.hid (cand_nbrs h)
    have hci := Lib.hid (cand_i64 h)
    go_enter Try.func120, Try.ntmps120
    go_wp2_with (go_at_call 85; refine (CellOk_i _ _ _).mono ?_; rintro e wx ⟨rfl, hbn⟩; have hSz := bl_sz (bl_trans hB (by go_grown)) hbn; replace hB := bl_trans (bl_trans hB (by go_grown)) hbn; replace P := P.bel (bl_trans (by go_grown) hbn); replace Pc := P.c2; replace P := P.alloc (.cells #[] 49); replace Pc := P.c2; have hxw := hB.size; clear hbn)
    have ho := Lib.hid ((OwC.new_ (B := w.heap.size) (w := wx) hxw).alloc' (.cells ((cand x y).flatMap cC).toArray 49))
    have M := Blk.new (wx.alloc (.cells #[] 49)) 49 ((cand x y).flatMap cC)
    rw [World.size_alloc] at M
    have hlen4 : (cand x y).length = 4 := rfl
    replace hB := bl_alloc (bl_alloc hB (.cells #[] 49)) (.cells ((cand x y).flatMap cC).toArray 49)
    go_loopw [3, 36] (fun v i wr => ∃ j : Nat, j ≤ 4 ∧ i = .int .i64 j ∧ OwC w.heap.size wr v (((cand x y).take j).filter okC) ∧ (∀ k, v.ownBlock = some k → k ≠ wx.heap.size + 1) ∧ Blk wr (wx.heap.size + 1) 49 ((cand x y).flatMap cC) ∧ Below w.heap.size w wr) (fun _ i _ => 4 - (intOf i).toNat)
    case atStart => exact ⟨0, by omega, rfl, ho.out, (by intro k hk; simp [Value.ownBlock] at hk; omega), M, hB⟩
    case round =>
      obtain ⟨j, hj, rfl, own, hne, M', hB'⟩ := hrel
      clear P Pc hB ho M
      have M := M'
      have hB := hB'
      clear M' hB'
      by_cases hlt : j < 4
      · have hM : RdC wr (some ⟨wx.heap.size + 1, 0, none⟩) (cand x y) := ⟨M.rd (flatMap_len cC 2 (fun _ => rfl) _), hci.out⟩
        obtain ⟨b', off, a, b, e1, hbl, hv, hd, ga, gb, c0, c1⟩ := hM.at_ (k := j) (by omega)
        injection e1 with e1
        injection e1 with e1 e2
        subst e1
        subst e2
        simp only [Nat.zero_add] at c0 c1
        have htk := Lib.hid (take_snoc_at hv)
        have Q := Blk.new wr 49 [.int .i64 a, .int .i64 b]
        have Qc := Q.c2
        replace M := M.alloc (.cells #[.int .i64 a, .int .i64 b] 49)
        have Ho := Lib.hid (own.alloc' (.cells #[.int .i64 a, .int .i64 b] 49))
        have hl4 : (((cand x y).take j).filter okC).length ≤ 4 := Nat.le_trans (List.length_filter_le _ _) (by rw [List.length_take]; omega)
        have hne' := Lib.hid hne
        clear own hv hd hM hne
        cases hok : cellOk a b
        · go_wp2_with (go_at_call 85; refine (CellOk_i _ _ _).mono ?_; rintro e wn ⟨rfl, hbn⟩; have hSz := bl_sz (bl_trans hB (by go_grown)) hbn; replace hB := bl_trans (bl_trans hB (by go_grown)) hbn; replace Q := Q.bel (bl_trans (by go_grown) hbn); replace Qc := Q.c2; replace M := M.bel hbn; replace Ho := Lib.hid (Ho.out.bel hbn); clear hbn)
          go_roundw
          case rel => exact ⟨j + 1, by omega, by go_num, by rw [htk.out, List.filter_append]; simp only [List.filter_cons, List.filter_nil, okC, hok, Bool.false_eq_true, if_false, List.append_nil]; exact Ho.out, hne'.out, M, hB⟩
          case measure => simp [intOf]; omega
        · go_wp2_with (first | (go_at_call 85; refine (CellOk_i _ _ _).mono ?_; rintro e wn ⟨rfl, hbn⟩; have hSz := bl_sz (bl_trans hB (by go_grown)) hbn; replace hB := bl_trans (bl_trans hB (by go_grown)) hbn; replace Q := Q.bel (bl_trans (by go_grown) hbn); replace Qc := Q.c2; replace M := M.bel hbn; replace Ho := Lib.hid (Ho.out.bel hbn); clear hbn) | (at_builtin; refine wpList_atC rfl (.tmp 42) (.tmp 44) rfl w.heap.size _ (((cand x y).take j).filter okC) a b rfl rfl Ho.out hB.size (by omega) ga gb ?_; intro v' w1 ho1 hb1 hg1 hat1 hsz1))
          go_roundw
          case rel => exact ⟨j + 1, by omega, by go_num, by rw [htk.out, List.filter_append]; simp only [List.filter_cons, List.filter_nil, okC, hok, if_true]; exact ho1, (fun k hk => by
            rcases hat1 with h1 | h1
            · rw [h1] at hk; exact hne'.out k hk
            · rw [h1] at hk; injection hk with hk; have := M.lt; omega), (hg1.block _ M.lt (fun e => hne'.out _ e.symm rfl)).trans M, hb1 _ hB⟩
          case measure => simp [intOf]; omega
      · have hk4 : j = 4 := by omega
        subst hk4
        have own' := Lib.hid own
        clear own
        go_wp2
        go_ret
        refine ⟨_, rfl, ?_, hB⟩
        rw [← hcn.out]
        exact own'.out
def deg (rs : List Int) (c : Int × Int) : Nat := ((nbrs c.1 c.2).filter fun d => regHas rs d.1 d.2).length
def degTo (rs : List Int) (l : List (Int × Int)) : Nat := (l.filter fun d => regHas rs d.1 d.2).length
theorem degTo_snoc (rs : List Int) (l : List (Int × Int)) (d : Int × Int) : degTo rs (l ++ [d]) = degTo rs l + (if regHas rs d.1 d.2 then 1 else 0) := by
  unfold degTo
  rw [List.filter_append, List.length_append]
  cases h : regHas rs d.1 d.2 <;> simp [h]
theorem degTo_le (rs : List Int) (l : List (Int × Int)) : degTo rs l ≤ l.length := List.length_filter_le _ _
def doors (rs : List Int) : List (Int × Int) := (regCells rs).filter fun c => decide (deg rs c < 4)
theorem doors_len (rs : List Int) : (doors rs).length ≤ 64 := Nat.le_trans (List.length_filter_le _ _) (regCells_len rs)
theorem regCells_none {l : List Int} (h : regOk l = false) : regCells l = [] := by simp [regCells, h]
theorem regCells_i64 {l : List Int} {c : Int × Int} (h : c ∈ regCells l) : I64 c.1 ∧ I64 c.2 := by
  have := cellOk_iff.1 (regCells_ok h)
  exact ⟨⟨by omega, by omega⟩, ⟨by omega, by omega⟩⟩
end Go.Proofs.Ythclolooidnniaa

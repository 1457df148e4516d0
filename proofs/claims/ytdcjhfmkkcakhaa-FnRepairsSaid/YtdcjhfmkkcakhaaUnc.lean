/-
  Contract of UncoveredOf of the reference: the cells of a region over which no domino lies; nothing that was there is written; at most 1048576 dominoes.
-/
import Derived.Test.YtdcjhfmkkcakhaaLay
import Derived.Test.YtdcjhfmkkcakhaaCovL
namespace Go.Proofs.Ytdcjhfmkkcakhaa
open Go.ChangeShapes Go.WideShapes Go.ChangeAt Go.RowKit Go.Deep
set_option linter.unusedVariables false

def uncL (rs : List Int) (head : List Dm) : List Cl := (regCells rs).filter fun c => decide (domAt head c 0 < 0)
theorem filter_take_yes {α : Type} {p : α → Bool} {l : List α} {j : Nat} {x : α} (h : l[j]? = some x) (hp : p x = true) : (l.take (j + 1)).filter p = (l.take j).filter p ++ [x] := by
  rw [take_snoc_at h, List.filter_append]; simp [hp]
theorem filter_take_no {α : Type} {p : α → Bool} {l : List α} {j : Nat} {x : α} (h : l[j]? = some x) (hp : p x = false) : (l.take (j + 1)).filter p = (l.take j).filter p := by
  rw [take_snoc_at h, List.filter_append]; simp [hp]
theorem uncL_cells {rs : List Int} (h : regOk rs = true) (head : List Dm) : uncL rs head = cellsBy (bdiff (regSet rs) (covers head)).testBit 64 := by
  unfold uncL
  rw [regCells_set h]
  have e : (cellsBy (regSet rs).testBit 64).filter (fun c => decide (domAt head c 0 < 0)) = (cellsBy (regSet rs).testBit 64).filter (fun c => (fun k => !(covers head).testBit k) (idxN c)) := by
    apply List.filter_congr
    intro c hc
    have hok := (mem_cellsBy.1 hc).1
    have := domAt_neg (c := c) hok head 0 (Int.le_refl _)
    cases hb : (covers head).testBit (idxN c)
    · rw [decide_eq_true (this.2 hb)]; simp [hb]
    · rw [decide_eq_false (fun h => by rw [this.1 h] at hb; cases hb)]; simp [hb]
  rw [e]
  refine (cellsBy_filter (regSet rs).testBit (fun k => !(covers head).testBit k)).trans ?_
  apply cellsBy_congr
  intro k _
  rw [bdiff_bit (regSet_lt h) (covers_lt _)]
set_option maxRecDepth 100000 in
set_option maxHeartbeats 4000000 in
theorem UncoveredOf_s (A : Option Addr) (c : Nat) (rs : List Int) (B : Option Addr) (N d : Nat) (head : List Dm) (w : World) (hl : rs.length ≤ 1048576) (hr : RdI w A rs) (hN : N = head.length) (hl2 : N ≤ 1048576) (hs : RdD w B head) :
    Calls Try.prog 209 #[.agg #[.slice A rs.length c], .slice B N d] w fun e w' => ∃ v, e = .returned v ∧ OwC w.heap.size w' v (uncL rs head) ∧ Below w.heap.size w w' := by
  (have hB := Below.refl w.heap.size w; have P := Blk.new w 31 [.slice A rs.length c]; have Pc := P.c1)
  have hr' := Lib.hid hr
  have hs' := Lib.hid hs
  have HN := Lib.hid hN
  clear hr hs hN
  have hB0 := bl_alloc (bl_alloc (Below.refl w.heap.size w) (.cells #[.slice A rs.length c] 31)) (.cells #[] 35)
  have O0 := Lib.hid (OwC.new_ (B := w.heap.size) (w := w.alloc (.cells #[.slice A rs.length c] 31)) (by rw [World.size_alloc]; omega))
  rw [World.size_alloc] at O0
  replace P := P.alloc (.cells #[] 35)
  replace Pc := P.c1
  go_enter Try.func209, Try.ntmps209
  go_wp2_with (go_at_call 23; refine (CellsOf_s A c rs _ hl (hr'.out.below hB0)).mono ?_; rintro e w1 ⟨v1, rfl, o1, hb1⟩; obtain ⟨⟨A1, c1, rfl⟩, _⟩ := id o1; have O1 := Lib.hid (O0.out.bel hb1); have HB1 := Lib.hid (bl_trans hB0 hb1))
  obtain ⟨n, hn⟩ : ∃ n, n = (regCells rs).length := ⟨_, rfl⟩
  have hn64 : n ≤ 64 := by rw [hn]; exact regCells_len rs
  have HL := Lib.hid hn
  rw [← hn] at o1 ⊢
  have HD0 : Hid (∀ b, (Value.slice (some ⟨w.heap.size + 1, 0, none⟩) 0 0).ownBlock = some b → (Value.slice A1 n c1).ownBlock ≠ some b) := Lib.hid (by
    intro b hb e
    have h1 := (o1.2.1.lt b e).1
    rw [World.size_alloc, World.size_alloc] at h1
    simp [Value.ownBlock] at hb
    omega)
  have C1 := Lib.hid (o1.mono (B' := w.heap.size) (by rw [World.size_alloc, World.size_alloc]; omega))
  clear hn o1 hb1 P Pc O0 hB0 hB
  go_loopw [5, 7] (fun v i wr => ∃ j : Nat, j ≤ n ∧ i = .int .i64 j ∧ OwC w.heap.size wr v (((regCells rs).take j).filter fun c => decide (domAt head c 0 < 0)) ∧ Hid (OwC w.heap.size wr (.slice A1 n c1) (regCells rs)) ∧ Hid (∀ b, v.ownBlock = some b → (Value.slice A1 n c1).ownBlock ≠ some b) ∧ Hid (Below w.heap.size w wr)) (fun _ i _ => n - (intOf i).toNat)
  case atStart => exact ⟨0, by omega, rfl, O1.out, C1, HD0, HB1⟩
  case round =>
    obtain ⟨j, hj, rfl, o1, HC, HD, HBr⟩ := hrel
    clear O1 C1 HD0 HB1
    by_cases hlt : j < n
    · obtain ⟨b, off, x, y, hA1, hbl, hx, _, gx, gy, hc1, hc2⟩ := HC.out.rd.at_ (k := j) (by rw [← HL.out]; exact hlt)
      subst hA1
      have hok : cellOk x y = true := regCells_ok (List.mem_of_getElem? hx)
      have HO := Lib.hid o1
      have hlen : (((regCells rs).take j).filter fun c => decide (domAt head c 0 < 0)).length ≤ 1048576 := Nat.le_trans (List.length_filter_le _ _) (by rw [List.length_take]; omega)
      have hHs := Lib.hid (hs'.out.below HBr.out)
      obtain ⟨D, hD⟩ : ∃ D, D = domAt head (x, y) 0 := ⟨_, rfl⟩
      cases hq : decide (D < 0)
      · have HT := Lib.hid (filter_take_no (p := fun c => decide (domAt head c 0 < 0)) hx (by rw [← hD]; exact hq))
        have HDe := Lib.hid hD
        clear o1 hx hD
        go_wp2_with (go_at_call 208; refine (DominoAt_any B N d head x y _ HN.out hl2 hHs.out).mono ?_; rintro e w5 ⟨rfl, hb5⟩; rw [← HDe.out]; replace HO := Lib.hid (HO.out.bel hb5); replace HC := Lib.hid (HC.out.bel hb5); replace HBr := Lib.hid (bl_trans HBr.out hb5); clear hb5)
        go_roundw
        case rel => exact ⟨j + 1, by omega, by go_num, by rw [HT.out]; exact HO.out, HC, HD, HBr⟩
        case measure => simp [intOf]; omega
      · have HT := Lib.hid (filter_take_yes (p := fun c => decide (domAt head c 0 < 0)) hx (by rw [← hD]; exact hq))
        have HDe := Lib.hid hD
        clear o1 hx hD
        go_wp2_with (first | (go_at_call 208; refine (DominoAt_any B N d head x y _ HN.out hl2 hHs.out).mono ?_; rintro e w5 ⟨rfl, hb5⟩; rw [← HDe.out]; have hc1' := (hb5.cell (p := ⟨b, off + j * 2, none⟩) hbl).trans hc1; have hc2' := (hb5.cell (p := ⟨b, off + j * 2 + 1, none⟩) hbl).trans hc2; replace HO := Lib.hid (HO.out.bel hb5); replace HC := Lib.hid (HC.out.bel hb5); replace HBr := Lib.hid (bl_trans HBr.out hb5); have hBs : w.heap.size ≤ w5.heap.size := HBr.out.size; clear hb5) | (at_builtin; refine wpList_atC rfl (.tmp 24) (.tmp 29) rfl w.heap.size u5 _ x y rfl rfl HO.out hBs hlen gx gy ?_; intro v' w9 p1 b1 gr1 at1 sz1))
        have HBr2 := Lib.hid (b1 _ HBr.out)
        have HC2 := Lib.hid (HC.out.far_ gr1 (fun b hb e => HD.out b e hb))
        have HD2 := Lib.hid (apart_new at1 HD.out HC.out)
        have HP1 := Lib.hid p1
        clear p1 gr1 at1 b1 sz1
        go_roundw
        case rel => exact ⟨j + 1, by omega, by go_num, by rw [HT.out]; exact HP1.out, HC2, HD2, HBr2⟩
        case measure => simp [intOf]; omega
    · obtain rfl : j = n := by omega
      have e : ((regCells rs).take j).filter (fun c => decide (domAt head c 0 < 0)) = uncL rs head := by rw [HL.out, List.take_length]; rfl
      rw [e] at o1
      have HO := Lib.hid o1
      clear o1 e
      go_wp2_with fail
      go_ret
      exact ⟨_, rfl, HO.out, HBr.out⟩
end Go.Proofs.Ytdcjhfmkkcakhaa

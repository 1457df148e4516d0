/-
  Contracts of the functions on changed cells (covered, ChangedCells, both): what each returns, as a function of its arguments; nothing that was there is written; lists of at most 1048576.
-/
import Derived.Test.YtlbhicibnbcbaaaDoms
import Derived.Test.YtlbhicibnbcbaaaSets
import Derived.Test.YtlbhicibnbcbaaaIn
namespace Go.Proofs.Ytlbhicibnbcbaaa
open Go.ChangeShapes Go.WideShapes Go.ChangeAt Go.RowKit Go.Deep
set_option linter.unusedVariables false

def covStep (s : Nat) (d : Dm) : Nat := if domOk d.1 d.2.1 d.2.2 then s ||| setD d.1 d.2.1 d.2.2 else s
def covers (l : List Dm) : Nat := l.foldl covStep 0
theorem covers_snoc (l : List Dm) (d : Dm) : covers (l ++ [d]) = covStep (covers l) d := by simp [covers]
theorem covers_lt (l : List Dm) : covers l < 18446744073709551616 := by
  have : ∀ (l : List Dm) (s : Nat), s < 18446744073709551616 → l.foldl covStep s < 18446744073709551616 := by
    intro l
    induction l with
    | nil => intro s h; exact h
    | cons d l ih =>
      intro s h
      apply ih
      unfold covStep
      split
      · rename_i hd; exact or_lt h (setD_lt hd)
      · exact h
  exact this l 0 (by decide)
def gone (a b : List Dm) : List Dm := a.filter fun d => decide (d ∉ b)
theorem gone_snoc (a b : List Dm) (d : Dm) : gone (a ++ [d]) b = gone a b ++ (if d ∈ b then [] else [d]) := by
  unfold gone
  rw [List.filter_append]
  by_cases h : d ∈ b <;> simp [h]
theorem gone_len (a b : List Dm) : (gone a b).length ≤ a.length := List.length_filter_le _ _
def changed (a b : List Dm) : List (Int × Int) := cellsBy (covers (gone a b)).testBit 64
theorem changed_len (a b : List Dm) : (changed a b).length ≤ 64 := cellsBy_len _ _
set_option maxHeartbeats 1000000 in
theorem covered_any (A : Option Addr) (c : Nat) (l : List Dm) (w : World) (hl : l.length ≤ 1048576) (hr : RdD w A l) :
    Calls Try.prog 54 #[.slice A l.length c] w fun e w' => e = .returned (.int .u64 (covers l)) ∧ Below w.heap.size w w' := by
  have hr' := Lib.hid hr
  clear hr
  go_enter Try.func54, Try.ntmps54
  go_wp2
  go_loopw [3, 8] (fun s i wr => ∃ k : Nat, k ≤ l.length ∧ i = .int .i64 k ∧ s = .int .u64 (covers (l.take k) : Int) ∧ Below w.heap.size w wr) (fun _ i _ => l.length - (intOf i).toNat)
  case atStart => exact ⟨0, by omega, rfl, rfl, Below.refl _ _⟩
  case round =>
    obtain ⟨k, hk, rfl, rfl, hB⟩ := hrel
    by_cases hlt : k < l.length
    · obtain ⟨b', off, x, y, z, rfl, hbl, hv, hd, _, _, c0, c1, c2⟩ := (hr'.out.below hB).at_ hlt
      have hsl := covers_lt (l.take k)
      have Q := Blk.new wr 35 [.int .i64 x, .int .i64 y, .bool z]
      have Qc := Q.c3
      cases hin : domOk x y z
      · have hs := Lib.hid (show covers (l.take (k + 1)) = covers (l.take k) by rw [take_snoc_at hv, covers_snoc, covStep, hin, if_neg (by decide)])
        clear hv hd
        go_wp2_with (go_at_call 86; refine (DominoOk_i _ _ _ _).mono ?_; rintro e wn ⟨rfl, hbn⟩; have hSz := bl_sz (bl_trans hB (by go_grown)) hbn; replace hB := bl_trans (bl_trans hB (by go_grown)) hbn; replace Q := Q.bel (bl_trans (by go_grown) hbn); replace Qc := Q.c3; clear hbn)
        go_roundw
        case rel => exact ⟨k + 1, by omega, by go_num, by rw [hs.out], hB⟩
        case measure => simp [intOf]; omega
      · have hs := Lib.hid (show covers (l.take (k + 1)) = covers (l.take k) ||| setD x y z by rw [take_snoc_at hv, covers_snoc, covStep, hin, if_pos rfl])
        have hdl := setD_lt hin
        have hor := Lib.hid (u64_or_nat _ _ hsl hdl)
        clear hv hd
        go_wp2_with (first | (go_at_call 86; refine (DominoOk_i _ _ _ _).mono ?_; rintro e wn ⟨rfl, hbn⟩; have hSz := bl_sz (bl_trans hB (by go_grown)) hbn; replace hB := bl_trans (bl_trans hB (by go_grown)) hbn; replace Q := Q.bel (bl_trans (by go_grown) hbn); replace Qc := Q.c3; clear hbn) | (go_at_call 87; refine (dset_any _ _ _ _ hin).mono ?_; rintro e wn ⟨rfl, hbn⟩; have hSz := bl_sz (bl_trans hB (by go_grown)) hbn; replace hB := bl_trans (bl_trans hB (by go_grown)) hbn; replace Q := Q.bel (bl_trans (by go_grown) hbn); replace Qc := Q.c3; clear hbn))
        go_roundw
        case rel => exact ⟨k + 1, by omega, by go_num, by rw [hs.out, ← hor.out], hB⟩
        case measure => simp [intOf]; omega
    · have hkl : k = l.length := by omega
      subst hkl
      go_wp2
      go_ret
      exact ⟨ret_int (by rw [List.take_length]), hB⟩
set_option maxHeartbeats 2000000 in
theorem ChangedCells_i (A B : Option Addr) (c d : Nat) (a b : List Dm) (w : World) (ha : a.length ≤ 1048576) (hb : b.length ≤ 1048576) (hr : RdD w A a) (hs : RdD w B b) :
    Calls Try.prog 20 #[.slice A a.length c, .slice B b.length d] w fun e w' => ∃ v, e = .returned v ∧ OwC w.heap.size w' v (changed a b) ∧ Below w.heap.size w w' := by
  have hr' := Lib.hid hr
  have hs' := Lib.hid hs
  have hB := bl_alloc (Below.refl w.heap.size w) (.cells #[] 35)
  have ho := Lib.hid (OwD.new_ (B := w.heap.size) (w := w) (Nat.le_refl _))
  clear hr hs
  go_enter Try.func20, Try.ntmps20
  go_wp2
  go_loopw [5, 11] (fun v i wr => ∃ k : Nat, k ≤ a.length ∧ i = .int .i64 k ∧ OwD w.heap.size wr v (gone (a.take k) b) ∧ Below w.heap.size w wr) (fun _ i _ => a.length - (intOf i).toNat)
  case atStart => exact ⟨0, by omega, rfl, ho.out, hB⟩
  case round =>
    obtain ⟨k, hk, rfl, own, hB'⟩ := hrel
    clear hB ho
    have hB := hB'
    clear hB'
    by_cases hlt : k < a.length
    · obtain ⟨b', off, x, y, z, rfl, hbl, hv, hd, ga, gb, c0, c1, c2⟩ := (hr'.out.below hB).at_ hlt
      have Q := Blk.new wr 35 [.int .i64 x, .int .i64 y, .bool z]
      have Qc := Q.c3
      have hgl := gone_len (a.take k) b
      have hgl2 : (a.take k).length ≤ 1048576 := by rw [List.length_take]; omega
      have hsn := Lib.hid (show gone (a.take (k + 1)) b = gone (a.take k) b ++ (if (x, y, z) ∈ b then [] else [(x, y, z)]) by rw [take_snoc_at hv, gone_snoc])
      have Ho := Lib.hid (own.alloc' (.cells #[.int .i64 x, .int .i64 y, .bool z] 35))
      clear own hv hd
      cases hin : decide ((x, y, z) ∈ b)
      · have hin2 := Lib.hid (of_decide_eq_false hin)
        go_wp2_with (first | (go_at_call 53; refine (hasDomino_any B d b x y z _ hb (hs'.out.below (bl_trans hB (by go_grown)))).mono ?_; rintro e wn ⟨rfl, hbn⟩; have hSz := bl_sz (bl_trans hB (by go_grown)) hbn; replace hB := bl_trans (bl_trans hB (by go_grown)) hbn; replace Q := Q.bel (bl_trans (by go_grown) hbn); replace Qc := Q.c3; replace Ho := Lib.hid (Ho.out.bel hbn); clear hbn) | (at_builtin; refine wpList_atD rfl (.tmp 19) (.tmp 21) rfl w.heap.size _ (gone (a.take k) b) x y z rfl rfl Ho.out hB.size (by omega) ga gb ?_; intro v' w1 ho1 hb1 hg1 hat1 hsz1))
        go_roundw
        case rel => exact ⟨k + 1, by omega, by go_num, by rw [hsn.out, if_neg hin2.out]; exact ho1, hb1 _ hB⟩
        case measure => simp [intOf]; omega
      · have hin2 := Lib.hid (of_decide_eq_true hin)
        go_wp2_with (go_at_call 53; refine (hasDomino_any B d b x y z _ hb (hs'.out.below (bl_trans hB (by go_grown)))).mono ?_; rintro e wn ⟨rfl, hbn⟩; have hSz := bl_sz (bl_trans hB (by go_grown)) hbn; replace hB := bl_trans (bl_trans hB (by go_grown)) hbn; replace Q := Q.bel (bl_trans (by go_grown) hbn); replace Qc := Q.c3; replace Ho := Lib.hid (Ho.out.bel hbn); clear hbn)
        go_roundw
        case rel => exact ⟨k + 1, by omega, by go_num, by rw [hsn.out, if_pos hin2.out, List.append_nil]; exact Ho.out, hB⟩
        case measure => simp [intOf]; omega
    · have hkl : k = a.length := by omega
      subst hkl
      rw [List.take_length] at own
      obtain ⟨⟨A1, c1, rfl⟩, _⟩ := id own
      have hgl := gone_len a b
      have R := Lib.hid own.rd
      have hlt2 := covers_lt (gone a b)
      clear own
      go_wp2_with fail
      (refine (covered_any A1 c1 (gone a b) _ (by omega) (R.out.below (by go_grown))).mono ?_; rintro e wn ⟨rfl, hbn⟩; have hSz := bl_sz (bl_trans hB (by go_grown)) hbn; replace hB := bl_trans (bl_trans hB (by go_grown)) hbn; clear hbn)
      go_wp2_with fail
      (refine (cells_any (covers (gone a b)) _ hlt2).mono ?_; rintro e wn ⟨v, rfl, o1, hbn⟩; have hSz := bl_sz (bl_trans hB (by go_grown)) hbn; replace hB := bl_trans (bl_trans hB (by go_grown)) hbn; clear hbn)
      go_wp2_with fail
      go_ret
      exact ⟨_, rfl, o1.mono hSz, hB⟩
theorem info_bool : (Try.prog.info? 4).map (fun i => (i.zero, i.size, i.bytes)) = some (some (.bool false), 1, 1) := by kernel_rfl
def mkB (s : Nat) : List Value := (List.range 64).map fun k => .bool (s.testBit k)
theorem mkB_zero : mkB 0 = List.replicate 64 (.bool false) := by simp [mkB, List.map_const']
theorem mkB_get (s k : Nat) (h : k < 64) : (mkB s)[k]? = some (.bool (s.testBit k)) := by simp [mkB, h]
theorem mkB_set (s k : Nat) : (mkB s).set k (.bool true) = mkB (s ||| 2 ^ k) := by
  apply List.ext_getElem?
  intro i
  by_cases h : i < 64
  · rw [mkB_get _ _ h, List.getElem?_set]
    by_cases hk : k = i
    · subst hk
      rw [if_pos rfl, if_pos (by simpa [mkB] using h), Nat.testBit_or, Nat.testBit_two_pow_self, Bool.or_true]
    · rw [if_neg hk, mkB_get _ _ h, Nat.testBit_or, Nat.testBit_two_pow_of_ne hk, Bool.or_false]
  · rw [List.getElem?_eq_none (by simp [mkB]; omega), List.getElem?_eq_none (by simp [mkB]; omega)]
theorem Blk.getB {w : World} {g : Nat} {E : TypeId} {s k : Nat} (h : Blk w g E (mkB s)) (hk : k < 64) : w.cell? ⟨g, k, none⟩ = some (.bool (s.testBit k)) := by
  rw [h.cell, mkB_get _ _ hk]
theorem Blk.setB {w : World} {g : Nat} {E : TypeId} {s : Nat} (h : Blk w g E (mkB s)) (k : Nat) : Blk (w.setCell ⟨g, k, none⟩ (.bool true)) g E (mkB (s ||| 2 ^ k)) := by
  have := h.set_ k (.bool true)
  rwa [mkB_set] at this
theorem CellIndex_n (x y : Int) (w : World) (h : cellOk x y = true) :
    Calls Try.prog 58 #[.agg #[.int .i64 x, .int .i64 y]] w fun e w' => e = .returned (.int .i64 ((y * 8 + x).toNat : Nat)) ∧ Below w.heap.size w w' := by
  have hc := cellOk_iff.1 h
  have e : cellIdx x y = ((y * 8 + x).toNat : Nat) := by rw [cellIdx, h, if_pos rfl]; omega
  rw [← e]
  exact CellIndex_s x y w
set_option maxRecDepth 100000 in
set_option maxHeartbeats 4000000 in
theorem ChangedCells_s (A B : Option Addr) (c d : Nat) (a b : List Dm) (w : World) (ha : a.length ≤ 1048576) (hb : b.length ≤ 1048576) (hr : RdD w A a) (hs : RdD w B b) :
    Calls Try.prog 22 #[.slice A a.length c, .slice B b.length d] w fun e w' => ∃ v, e = .returned v ∧ OwC w.heap.size w' v (changed a b) ∧ Below w.heap.size w w' := by
  have hmk : ∀ w : World, (Instr.makeSlice 84 (.int .i64 64) (.int .i64 64)).run Try.prog w = .ok (.slice (some ⟨w.heap.size, 0, none⟩) 64 64) (w.alloc (.cells (madeCells #[.bool false] 64) 4)) := run_make_row' (P := Try.prog) 84 4 (.bool false) 1 Try.underlying84 info_bool rfl .i64 .i64 64 (by omega) (by omega)
  have hr' := Lib.hid hr
  have hs' := Lib.hid hs
  have hB := bl_alloc (Below.refl w.heap.size w) (.cells (List.replicate 64 (.bool false)).toArray 4)
  have M := Blk.new w 4 (mkB 0)
  rw [mkB_zero] at M
  clear hr hs
  go_enter Try.func22, Try.ntmps22
  go_wp2
  rw [made_list]
  go_loopw [6] (fun i wr => ∃ k : Nat, k ≤ a.length ∧ i = .int .i64 k ∧ Blk wr w.heap.size 4 (mkB (covers (gone (a.take k) b))) ∧ Below w.heap.size w wr) (fun i _ => a.length - (intOf i).toNat)
  case atStart => exact ⟨0, by omega, rfl, by rw [← mkB_zero] at M; exact M, hB⟩
  case round =>
    obtain ⟨k, hk, rfl, M', hB'⟩ := hrel
    clear hB M hmk
    have hB := hB'
    have M := M'
    clear hB' M'
    by_cases hlt : k < a.length
    · obtain ⟨b', off, x, y, z, rfl, hbl, hv, hd, ga, gb, c0, c1, c2⟩ := (hr'.out.below hB).at_ hlt
      have hsn := Lib.hid (show gone (a.take (k + 1)) b = gone (a.take k) b ++ (if (x, y, z) ∈ b then [] else [(x, y, z)]) by rw [take_snoc_at hv, gone_snoc])
      have hneg := findD_neg (x, y, z) b 0 (by omega)
      clear hv hd
      by_cases hin : (x, y, z) ∈ b
      · have hf : ¬ findD b (x, y, z) 0 < 0 := fun h => (hneg.1 h) hin
        clear hneg
        go_wp2_with (go_at_call 46; refine (l11Has_any B d b x y z _ hb (hs'.out.below (bl_trans hB (by go_grown)))).mono ?_; rintro e wn ⟨rfl, hbn⟩; have hSz := bl_sz (bl_trans hB (by go_grown)) hbn; replace hB := bl_trans (bl_trans hB (by go_grown)) hbn; replace M := M.bel hbn; clear hbn)
        go_roundw
        case rel => exact ⟨k + 1, by omega, by go_num, by rw [hsn.out, if_pos hin, List.append_nil]; exact M, hB⟩
        case measure => simp [intOf]; omega
      · have hf : findD b (x, y, z) 0 < 0 := hneg.2 hin
        clear hneg
        have rd0 := Lib.hid c0
        have rd1 := Lib.hid c1
        have rd2 := Lib.hid c2
        cases hok : domOk x y z
        · go_wp2_with (first | (go_at_call 46; refine (l11Has_any B d b x y z _ hb (hs'.out.below (bl_trans hB (by go_grown)))).mono ?_; rintro e wn ⟨rfl, hbn⟩; have hSz := bl_sz (bl_trans hB (by go_grown)) hbn; replace hB := bl_trans (bl_trans hB (by go_grown)) hbn; replace M := M.bel hbn; replace c0 := (hbn.cell (p := ⟨b', off + k * 3, none⟩) hbl).trans c0; replace c1 := (hbn.cell (p := ⟨b', off + k * 3 + 1, none⟩) hbl).trans c1; replace c2 := (hbn.cell (p := ⟨b', off + k * 3 + 2, none⟩) hbl).trans c2; clear hbn) | (go_at_call 56; refine (DominoOk_s x y z _).mono ?_; rintro e wn ⟨rfl, hbn⟩; have hSz := bl_sz (bl_trans hB (by go_grown)) hbn; replace hB := bl_trans (bl_trans hB (by go_grown)) hbn; replace M := M.bel hbn; clear hbn))
          go_roundw
          case rel => exact ⟨k + 1, by omega, by go_num, by rw [hsn.out, if_neg hin, covers_snoc, covStep, hok, if_neg (by decide)]; exact M, hB⟩
          case measure => simp [intOf]; omega
        · obtain ⟨k1, k2⟩ := domOk_cells hok
          have j1 := cellOk_iff.1 k1
          have j2 := cellOk_iff.1 k2
          have hcs := Lib.hid (show covers (gone (a.take (k + 1)) b) = covers (gone (a.take k) b) ||| 2 ^ (y * 8 + x).toNat ||| 2 ^ (sndY y z * 8 + sndX x z).toNat by rw [hsn.out, if_neg hin, covers_snoc, covStep, hok, if_pos rfl, setD, ← Nat.or_assoc]; rfl)
          obtain ⟨n1, hn1⟩ : ∃ n : Nat, n = (y * 8 + x).toNat := ⟨_, rfl⟩
          obtain ⟨n2, hn2⟩ : ∃ n : Nat, n = (sndY y z * 8 + sndX x z).toNat := ⟨_, rfl⟩
          have hb1 : n1 < 64 := by omega
          have hb2 : n2 < 64 := by omega
          have hI1 := fun w => CellIndex_n x y w k1
          have hI2 := fun w => CellIndex_n (sndX x z) (sndY y z) w k2
          rw [← hn1] at hI1 hcs
          rw [← hn2] at hI2 hcs
          have hI1' := Lib.hid hI1
          have hI2' := Lib.hid hI2
          clear hI1 hI2 hn1 hn2
          go_wp2_with (first | (go_at_call 46; refine (l11Has_any B d b x y z _ hb (hs'.out.below (bl_trans hB (by go_grown)))).mono ?_; rintro e wn ⟨rfl, hbn⟩; have hSz := bl_sz (bl_trans hB (by go_grown)) hbn; replace hB := bl_trans (bl_trans hB (by go_grown)) hbn; replace M := M.bel hbn; replace c0 := (hbn.cell (p := ⟨b', off + k * 3, none⟩) hbl).trans c0; replace c1 := (hbn.cell (p := ⟨b', off + k * 3 + 1, none⟩) hbl).trans c1; replace c2 := (hbn.cell (p := ⟨b', off + k * 3 + 2, none⟩) hbl).trans c2; have hsz1 := hbn.size; clear hbn) | (go_at_call 56; refine (DominoOk_s x y z _).mono ?_; rintro e wn ⟨rfl, hbn⟩; have hSz := bl_sz (bl_trans hB (by go_grown)) hbn; replace hB := bl_trans (bl_trans hB (by go_grown)) hbn; replace M := M.bel hbn; replace c0 := (hbn.cell (p := ⟨b', off + k * 3, none⟩) (show b' < _ by omega)).trans c0; replace c1 := (hbn.cell (p := ⟨b', off + k * 3 + 1, none⟩) (show b' < _ by omega)).trans c1; replace c2 := (hbn.cell (p := ⟨b', off + k * 3 + 2, none⟩) (show b' < _ by omega)).trans c2; clear hbn))
          (refine (CellsUnder_yes x y z _ hok).mono ?_; rintro e wn ⟨rfl, hbn⟩; have hSz := bl_sz (bl_trans hB (by go_grown)) hbn; replace hB := bl_trans (bl_trans hB (by go_grown)) hbn; replace M := M.bel hbn; have hM := M.lt; (have E := (Blk.new wn 43 [.int .i64 x, .int .i64 y]).alloc (.cells #[.int .i64 (sndX x z), .int .i64 (sndY y z)] 43); have Ec := E.c2; have F := Blk.new2 wn (.cells #[.int .i64 x, .int .i64 y] 43) 43 [.int .i64 (sndX x z), .int .i64 (sndY y z)]; have Fc := F.c2); replace M := (M.alloc (.cells #[.int .i64 x, .int .i64 y] 43)).alloc (.cells #[.int .i64 (sndX x z), .int .i64 (sndY y z)] 43); clear hbn)
          go_wp2_with fail
          (refine (hI1'.out _).mono ?_; rintro e wn ⟨rfl, hbn⟩; have hSz := bl_sz (bl_trans hB (by go_grown)) hbn; replace hB := bl_trans (bl_trans hB (by go_grown)) hbn; replace E := E.bel (bl_trans (by go_grown) hbn); replace Ec := E.c2; replace F := F.bel (bl_trans (by go_grown) hbn); replace Fc := F.c2; replace M := M.bel hbn; have m0 := M.getB hb1; have mf := M.frozen n1; replace M := M.setB n1; replace E := E.farN w.heap.size n1 (by omega) (.bool true); replace F := F.farN w.heap.size n1 (by omega) (.bool true); replace Ec := E.c2; replace Fc := F.c2; replace hB := bl_set hB (p := ⟨w.heap.size, n1, none⟩) (Nat.le_refl _) (.bool true); clear hbn)
          go_wp2_with fail
          (refine (hI2'.out _).mono ?_; rintro e wn ⟨rfl, hbn⟩; have hSz := bl_sz (bl_trans hB (by go_grown)) hbn; replace hB := bl_trans (bl_trans hB (by go_grown)) hbn; replace F := F.bel (bl_trans (by go_grown) hbn); replace Fc := F.c2; replace M := M.bel hbn; have m0 := M.getB hb2; have mf := M.frozen n2; replace M := M.setB n2; replace hB := bl_set hB (p := ⟨w.heap.size, n2, none⟩) (Nat.le_refl _) (.bool true); clear hbn)
          go_wp2_with fail
          go_roundw
          case rel => exact ⟨k + 1, by omega, by go_num, by rw [hcs.out]; exact M, hB⟩
          case measure => simp [intOf]; omega
    · have hkl : k = a.length := by omega
      subst hkl
      rw [List.take_length] at M
      have hM := M.lt
      have ho := Lib.hid (OwC.new_ (B := w.heap.size + 1) (w := wr) hM)
      replace M := M.alloc (.cells #[] 43)
      replace hB := bl_alloc hB (.cells #[] 43)
      go_wp2
      go_loopw [9, 10] (fun v i wr => ∃ k : Nat, k ≤ 64 ∧ i = .int .i64 k ∧ OwC (w.heap.size + 1) wr v (cellsBy (covers (gone a b)).testBit k) ∧ Blk wr w.heap.size 4 (mkB (covers (gone a b))) ∧ Below w.heap.size w wr) (fun _ i _ => 64 - (intOf i).toNat)
      case atStart => exact ⟨0, by omega, rfl, ho.out, M, hB⟩
      case round =>
        obtain ⟨k, hk2, rfl, own, M', hB'⟩ := hrel
        clear hB M ho
        have hB := hB'
        have M := M'
        clear hB' M'
        by_cases hlt : k < 64
        · have hsn := Lib.hid (cellsBy_succ (covers (gone a b)).testBit k)
          have hlen := cellsBy_len (covers (gone a b)).testBit k
          have hE := cellOf_i64 k hlt
          have mk := M.getB hlt
          have Ho := Lib.hid own
          clear own
          cases ht : (covers (gone a b)).testBit k
          · rw [ht] at mk
            have ht' := Lib.hid ht
            clear ht
            go_wp2
            go_roundw
            case rel => exact ⟨k + 1, by omega, by go_num, by rw [hsn.out, ht'.out, if_neg (by decide), List.append_nil]; exact Ho.out, M, hB⟩
            case measure => simp [intOf]; omega
          · rw [ht] at mk
            have ht' := Lib.hid ht
            clear ht
            go_wp2_with (first | (go_at_call 47; refine (CellAt_s k _ hlt).mono ?_; rintro e wn ⟨rfl, hbn⟩; have hSz := bl_sz (bl_trans hB (by go_grown)) hbn; replace hB := bl_trans (bl_trans hB (by go_grown)) hbn; replace M := M.bel hbn; replace Ho := Lib.hid (Ho.out.bel hbn); have Q := Blk.new wn 43 [.int .i64 (cellOf k).1, .int .i64 (cellOf k).2]; have Qc := Q.c2; replace M := M.alloc (.cells #[.int .i64 (cellOf k).1, .int .i64 (cellOf k).2] 43); replace hB := bl_alloc hB (.cells #[.int .i64 (cellOf k).1, .int .i64 (cellOf k).2] 43); replace Ho := Lib.hid (Ho.out.alloc' (.cells #[.int .i64 (cellOf k).1, .int .i64 (cellOf k).2] 43)); clear hbn) | (at_builtin; refine wpList_atC rfl (.tmp 66) (.tmp 68) rfl (w.heap.size + 1) _ (cellsBy _ k) (cellOf k).1 (cellOf k).2 rfl (by simp [Act.eval]) Ho.out M.lt (by omega) hE.1 hE.2 ?_; intro v' w1 ho1 hb1 hg1 hat1 hsz1))
            go_roundw
            case rel => exact ⟨k + 1, by omega, by go_num, by rw [hsn.out, ht'.out, if_pos rfl]; exact ho1, M.below (hb1 _ (Below.refl _ _)) (by omega), hB.trans ((hb1 _ (Below.refl _ _)).mono (by omega))⟩
            case measure => simp [intOf]; omega
        · have hk4 : k = 64 := by omega
          subst hk4
          have Ho := Lib.hid own
          clear own
          go_wp2
          go_ret
          exact ⟨_, rfl, Ho.out.mono (by omega), hB⟩
end Go.Proofs.Ytlbhicibnbcbaaa

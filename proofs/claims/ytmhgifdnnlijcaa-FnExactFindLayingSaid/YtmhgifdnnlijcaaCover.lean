/-
  Tiles laid one after another on a set of cells (a plain model), and the contracts of IsCornerTiling (both): what each returns, as a function of its arguments; nothing that was there is written; at most 1048576 tiles.
-/
import Derived.Test.YtmhgifdnnlijcaaMarks
import Derived.Test.YtmhgifdnnlijcaaReach
import Derived.Test.YtmhgifdnnlijcaaCorner
namespace Go.Proofs.Ytmhgifdnnlijcaa
open Go.ChangeShapes Go.WideShapes Go.ChangeAt Go.RowKit Go.Deep
set_option linter.unusedVariables false

def bdiff (a b : Nat) : Nat := a &&& (18446744073709551615 - b)
theorem bdiff_lt {a b : Nat} (ha : a < 18446744073709551616) : bdiff a b < 18446744073709551616 := and_lt ha
theorem bdiff_bit {a b : Nat} (ha : a < 18446744073709551616) (hb : b < 18446744073709551616) (i : Nat) : (bdiff a b).testBit i = (a.testBit i && !b.testBit i) := by
  unfold bdiff
  rw [Nat.testBit_and]
  by_cases hi : i < 64
  · have e : 18446744073709551615 - b = 2 ^ 64 - (b + 1) := by omega
    rw [e, Nat.testBit_two_pow_sub_succ (by omega)]
    simp [hi]
  · have : a.testBit i = false := Nat.testBit_lt_two_pow (Nat.lt_of_lt_of_le ha (by
      have : 2 ^ 64 ≤ 2 ^ i := Nat.pow_le_pow_right (by decide) (by omega)
      omega))
    simp [this]
theorem bdiff_zero (a : Nat) (ha : a < 18446744073709551616) : bdiff a 0 = a := by
  apply Nat.eq_of_testBit_eq; intro i
  rw [bdiff_bit ha (by omega)]; simp
theorem bdiff_or {a b c : Nat} (ha : a < 18446744073709551616) (hb : b < 18446744073709551616) (hc : c < 18446744073709551616) : bdiff a (b ||| c) = bdiff (bdiff a b) c := by
  apply Nat.eq_of_testBit_eq; intro i
  rw [bdiff_bit ha (or_lt hb hc), bdiff_bit (bdiff_lt ha) hc, bdiff_bit ha hb, Nat.testBit_or]
  cases a.testBit i <;> cases b.testBit i <;> cases c.testBit i <;> rfl
def card (s : Nat) : Nat := ((List.range 64).filter s.testBit).length
theorem card_cells (s : Nat) : (cellsBy s.testBit 64).length = card s := by simp [cellsBy, card]
theorem filter_diff (p q : Nat → Bool) : ∀ l : List Nat, (∀ i ∈ l, q i = true → p i = true) → (l.filter fun i => p i && !q i).length + (l.filter q).length = (l.filter p).length := by
  intro l
  induction l with
  | nil => intro _; rfl
  | cons i l ih =>
    intro h
    have h1 := ih fun j hj => h j (by simp [hj])
    have h2 := h i (by simp)
    cases hq : q i
    · cases hp : p i
      · simp only [List.filter_cons, hq, hp]; simpa using h1
      · simp only [List.filter_cons, hq, hp]; simp; omega
    · have hp := h2 hq
      simp only [List.filter_cons, hq, hp]; simp; omega
theorem sub_bit {a b : Nat} (h : a &&& b = b) (i : Nat) (hb : b.testBit i = true) : a.testBit i = true := by
  rw [← h, Nat.testBit_and, Bool.and_eq_true] at hb; exact hb.1
theorem card_diff {a b : Nat} (ha : a < 18446744073709551616) (hb : b < 18446744073709551616) (h : a &&& b = b) : card (bdiff a b) + card b = card a := by
  have := filter_diff a.testBit b.testBit (List.range 64) fun i _ hi => sub_bit h i hi
  unfold card
  rw [← this]
  congr 2
  exact List.filter_congr fun i _ => bdiff_bit ha hb i
theorem card_zero {s : Nat} (hs : s < 18446744073709551616) : card s = 0 ↔ s = 0 := by
  constructor
  · intro h
    apply Nat.eq_of_testBit_eq; intro i
    rw [Nat.zero_testBit]
    by_cases hi : i < 64
    · have := List.eq_nil_of_length_eq_zero h
      rw [List.filter_eq_nil_iff] at this
      simpa using this i (List.mem_range.2 hi)
    · exact Nat.testBit_lt_two_pow (Nat.lt_of_lt_of_le hs (by
        have : 2 ^ 64 ≤ 2 ^ i := Nat.pow_le_pow_right (by decide) (by omega)
        omega))
  · rintro rfl; simp [card]
theorem nodup_sub' : ∀ {a b : List Cl}, a.Nodup → (∀ x ∈ a, x ∈ b) → a.length ≤ b.length := by
  intro a
  induction a with
  | nil => intro b _ _; simp
  | cons x a ih =>
    intro b hd h
    rw [List.nodup_cons] at hd
    have hx := h x (by simp)
    have := ih (b := b.erase x) hd.2 fun y hy => by
      have : y ≠ x := fun e => hd.1 (e ▸ hy)
      exact (List.mem_erase_of_ne this).2 (h y (by simp [hy]))
    rw [List.length_erase_of_mem hx] at this
    have hb : 0 < b.length := List.length_pos_of_mem hx
    simp only [List.length_cons]; omega
theorem cellsBy_nodup (p : Nat → Bool) : (cellsBy p 64).Nodup := by
  unfold cellsBy
  refine map_nodup (fun a _ b _ e => by rw [← idxN_of a, ← idxN_of b, e]) ?_
  exact (List.nodup_range).filter _
theorem card_setL {cs : List Cl} (hok : ∀ c ∈ cs, cellOk c.1 c.2 = true) (hd : cs.Nodup) : card (setL cs) = cs.length := by
  have hm : ∀ c, c ∈ cellsBy (setL cs).testBit 64 ↔ c ∈ cs := fun c => by
    rw [mem_cellsBy, setL_bit, decide_eq_true_eq]
    constructor
    · rintro ⟨h, d, hd2, e⟩
      exact idxN_inj (hok d hd2) h e ▸ hd2
    · intro h; exact ⟨hok c h, c, h, rfl⟩
  rw [← card_cells]
  have h1 := nodup_sub' (cellsBy_nodup (setL cs).testBit) (fun c hc => (hm c).1 hc)
  have h2 := nodup_sub' hd (fun c hc => (hm c).2 hc)
  omega
/-- Tiles laid one after another: what is left of a set, if each tile lies in what is left. -/
def takeL {α : Type} (own : α → Nat) (ok : α → Bool) : Nat → List α → Option Nat
  | s, [] => some s
  | s, t :: l => if ok t && (s &&& own t == own t) then takeL own ok (bdiff s (own t)) l else none
theorem takeL_step {α : Type} {own : α → Nat} {ok : α → Bool} {s k : Nat} {l : List α} {t : α} (h : l[k]? = some t) : takeL own ok s (l.drop k) = if ok t && (s &&& own t == own t) then takeL own ok (bdiff s (own t)) (l.drop (k + 1)) else none := by
  rw [drop_at h, takeL]
/-! ### corner tiles -/
def cOwn (t : Int × Int × Int) : Nat := setL (cornerCells t.1 t.2.1 t.2.2)
def cOk (t : Int × Int × Int) : Bool := cornerOk t.1 t.2.1 t.2.2
def cornerTiling (rs : List Int) (l : List (Int × Int × Int)) : Bool := regOk rs && (takeL cOwn cOk (regSet rs) l == some 0)
theorem corner_cells {x y z : Int} (h : cornerOk x y z = true) : (∀ c ∈ cornerCells x y z, cellOk c.1 c.2 = true) ∧ (cornerCells x y z).Nodup ∧ (cornerCells x y z).length = 3 := by
  have hz := cornerOk_iff.1 h
  have hok : ∀ c ∈ cornerCells x y z, cellOk c.1 c.2 = true := fun c hc => by
    rw [cornerCells, if_pos h, ccUpto, List.mem_map] at hc
    obtain ⟨j, hj, rfl⟩ := hc
    have := (List.mem_filter.1 hj).1
    rw [List.mem_range] at this
    apply cellOk_iff.2
    dsimp only
    omega
  refine ⟨hok, ?_, ?_⟩
  · rw [cornerCells, if_pos h, ccUpto]
    refine map_nodup (fun a ha b hb e => ?_) ((List.nodup_range).filter _)
    have h1 := (List.mem_filter.1 ha).1
    have h2 := (List.mem_filter.1 hb).1
    rw [List.mem_range] at h1 h2
    injection e with e1 e2
    omega
  · rw [cornerCells, if_pos h, ccUpto, List.length_map]
    rcases (show z = 0 ∨ z = 1 ∨ z = 2 ∨ z = 3 by omega) with rfl | rfl | rfl | rfl <;> decide
theorem cOwn_lt (t : Int × Int × Int) : cOwn t < 18446744073709551616 := by
  unfold cOwn
  cases h : cornerOk t.1 t.2.1 t.2.2
  · simp [cornerCells, h, setL]
  · exact setL_lt (corner_cells h).1
set_option maxRecDepth 100000 in
set_option maxHeartbeats 1000000 in
theorem IsCornerTiling_i (A : Option Addr) (c : Nat) (rs : List Int) (B : Option Addr) (N d : Nat) (l : List (Int × Int × Int)) (w : World) (hl : rs.length ≤ 1048576) (hN : N = l.length) (hl2 : N ≤ 1048576) (hr : RdI w A rs) (hs : RdT w B l) :
    Calls Try.prog 29 #[.agg #[.slice A rs.length c], .slice B N d] w fun e w' => e = .returned (.bool (cornerTiling rs l)) ∧ Below w.heap.size w w' := by
  (have hB := Below.refl w.heap.size w; have P := Blk.new w 39 [.slice A rs.length c]; have Pc := P.c1)
  have hr' := Lib.hid hr
  have hs' := Lib.hid hs
  have HN := Lib.hid hN
  clear hr hs hN
  cases h : regOk rs
  · have hv := Lib.hid (show cornerTiling rs l = false by rw [cornerTiling, h]; rfl)
    go_enter Try.func29, Try.ntmps29
    go_wp2_with (go_at_call 76; refine (RegionOk_i A c rs _ hl (hr'.out.below (bl_trans hB (by go_grown)))).mono ?_; rintro e wn ⟨rfl, hbn⟩; have hSz := bl_sz (bl_trans hB (by go_grown)) hbn; replace hB := bl_trans (bl_trans hB (by go_grown)) hbn; replace P := P.bel (bl_trans (by go_grown) hbn); replace Pc := P.c1; clear hbn)
    go_ret
    exact ⟨ret_bool (by rw [hv.out]), (by first | (go_grown; done) | exact bl_trans hB (by go_grown))⟩
  · have h' := Lib.hid h
    go_enter Try.func29, Try.ntmps29
    go_wp2_with (first | (go_at_call 76; refine (RegionOk_i A c rs _ hl (hr'.out.below (bl_trans hB (by go_grown)))).mono ?_; rintro e wn ⟨rfl, hbn⟩; have hSz := bl_sz (bl_trans hB (by go_grown)) hbn; replace hB := bl_trans (bl_trans hB (by go_grown)) hbn; replace P := P.bel (bl_trans (by go_grown) hbn); replace Pc := P.c1; clear hbn) | (go_at_call 77; refine (rset_any A c rs _ h'.out (hr'.out.below (bl_trans hB (by go_grown)))).mono ?_; rintro e wn ⟨rfl, hbn⟩; have hSz := bl_sz (bl_trans hB (by go_grown)) hbn; replace hB := bl_trans (bl_trans hB (by go_grown)) hbn; clear hbn))
    go_loopw [5, 16] (fun v i wr => ∃ k : Nat, ∃ s : Nat, k ≤ N ∧ i = .int .i64 k ∧ v = .int .u64 (s : Int) ∧ s < 18446744073709551616 ∧ Hid (takeL cOwn cOk (regSet rs) l = takeL cOwn cOk s (l.drop k)) ∧ Below w.heap.size w wr) (fun _ i _ => N - (intOf i).toNat)
    case atStart => exact ⟨0, regSet rs, by omega, rfl, rfl, regSet_lt h'.out, Lib.hid rfl, hB⟩
    case round =>
      obtain ⟨k, s, hk, rfl, rfl, hsl, HT, hBr⟩ := hrel
      clear hB P Pc
      have hB := hBr
      clear hBr
      by_cases hlt : k < N
      · obtain ⟨b, off, x, y, z, rfl, hbl, hv, hd, ga, gb, gc, c0, c1, c2⟩ := (hs'.out.below hB).at_ (k := k) (by have := HN.out; omega)
        have hstep := takeL_step (own := cOwn) (ok := cOk) (s := s) hv
        rw [← HT.out] at hstep
        have Hst := Lib.hid hstep
        have P := Blk.new wr 89 [.int .i64 x, .int .i64 y, .int .i64 z]
        have Pc := P.c3
        replace hB := bl_alloc hB (.cells #[.int .i64 x, .int .i64 y, .int .i64 z] 89)
        have hcl : (cornerCells x y z).length ≤ 1048576 := by unfold cornerCells; split; · have := ccUpto_len x y z 4; omega
                                                              · simp
        have hcok : ∀ c ∈ cornerCells x y z, cellOk c.1 c.2 = true := by
          cases h : cornerOk x y z
          · simp [cornerCells, h]
          · exact (corner_cells h).1
        have Hcok := Lib.hid hcok
        have hol := cOwn_lt (x, y, z)
        obtain ⟨o, ho⟩ : ∃ o, o = cOwn (x, y, z) := ⟨_, rfl⟩
        have Ho := Lib.hid (show setL (cornerCells x y z) = o from ho.symm)
        rw [← ho] at hol
        have hand := u64_and_nat s o hsl hol
        have handn := u64_andNot_nat s o hsl hol
        have HO := Lib.hid ho
        clear hv hd hstep hcok ho
        cases c3 : cornerOk x y z
        · have hv := Lib.hid (show cornerTiling rs l = false by rw [cornerTiling, Hst.out]; simp [cOk, c3])
          have C3 := Lib.hid c3
          clear c3
          go_wp2_with (first | (go_at_call 79; refine (CornerCells_i x y z _).mono ?_; rintro e wn ⟨v, rfl, o1, hbn⟩; have hSz := bl_sz (bl_trans hB (by go_grown)) hbn; replace hB := bl_trans (bl_trans hB (by go_grown)) hbn; replace P := P.bel (bl_trans (by go_grown) hbn); replace Pc := P.c3; obtain ⟨⟨A2, c2', rfl⟩, _⟩ := id o1; have O1 := Lib.hid o1.rd; clear o1; clear hbn) | (go_at_call 78; refine (setOf_any A2 c2' (cornerCells x y z) _ hcl O1.out Hcok.out).mono ?_; rintro e wn ⟨rfl, hbn⟩; have hSz := bl_sz (bl_trans hB (by go_grown)) hbn; replace hB := bl_trans (bl_trans hB (by go_grown)) hbn; replace P := P.bel (bl_trans (by go_grown) hbn); replace Pc := P.c3; rw [Ho.out]; clear hbn) | (go_at_call 80; refine (CornerOk_i x y z _).mono ?_; rintro e wn ⟨rfl, hbn⟩; have hSz := bl_sz (bl_trans hB (by go_grown)) hbn; replace hB := bl_trans (bl_trans hB (by go_grown)) hbn; replace P := P.bel (bl_trans (by go_grown) hbn); replace Pc := P.c3; rw [C3.out]; clear hbn))
          go_ret
          exact ⟨ret_bool (by rw [hv.out]), hB⟩
        · have C3 := Lib.hid c3
          by_cases c4 : s &&& o = o
          · have C4 := Lib.hid c4
            have hne : (bits BinOp.and IntKind.u64 (s : Int) (o : Int) != (o : Int)) = false := by rw [hand, c4]; simp
            have hnx := Lib.hid (show takeL cOwn cOk (regSet rs) l = takeL cOwn cOk (bdiff s o) (l.drop (k + 1)) by
              rw [Hst.out, ← HO.out, c4]; simp [cOk, c3])
            have hbd := Lib.hid (show ((s &&& (18446744073709551615 - o) : Nat) : Int) = ((bdiff s o : Nat) : Int) from rfl)
            clear c3 c4 hand
            go_wp2_with (first | (go_at_call 79; refine (CornerCells_i x y z _).mono ?_; rintro e wn ⟨v, rfl, o1, hbn⟩; have hSz := bl_sz (bl_trans hB (by go_grown)) hbn; replace hB := bl_trans (bl_trans hB (by go_grown)) hbn; replace P := P.bel (bl_trans (by go_grown) hbn); replace Pc := P.c3; obtain ⟨⟨A2, c2', rfl⟩, _⟩ := id o1; have O1 := Lib.hid o1.rd; clear o1; clear hbn) | (go_at_call 78; refine (setOf_any A2 c2' (cornerCells x y z) _ hcl O1.out Hcok.out).mono ?_; rintro e wn ⟨rfl, hbn⟩; have hSz := bl_sz (bl_trans hB (by go_grown)) hbn; replace hB := bl_trans (bl_trans hB (by go_grown)) hbn; replace P := P.bel (bl_trans (by go_grown) hbn); replace Pc := P.c3; rw [Ho.out]; clear hbn) | (go_at_call 80; refine (CornerOk_i x y z _).mono ?_; rintro e wn ⟨rfl, hbn⟩; have hSz := bl_sz (bl_trans hB (by go_grown)) hbn; replace hB := bl_trans (bl_trans hB (by go_grown)) hbn; replace P := P.bel (bl_trans (by go_grown) hbn); replace Pc := P.c3; rw [C3.out]; clear hbn))
            go_roundw
            case rel => exact ⟨k + 1, bdiff s o, by omega, by go_num, by rfl, bdiff_lt hsl, hnx, hB⟩
            case measure => simp [intOf]; omega
          · have hne : (bits BinOp.and IntKind.u64 (s : Int) (o : Int) != (o : Int)) = true := by rw [hand]; simp only [bne_iff_ne, ne_eq]; omega
            have hv := Lib.hid (show cornerTiling rs l = false by
              rw [cornerTiling, Hst.out, ← HO.out]; simp [cOk, c3, c4])
            clear c3 c4 hand handn
            go_wp2_with (first | (go_at_call 79; refine (CornerCells_i x y z _).mono ?_; rintro e wn ⟨v, rfl, o1, hbn⟩; have hSz := bl_sz (bl_trans hB (by go_grown)) hbn; replace hB := bl_trans (bl_trans hB (by go_grown)) hbn; replace P := P.bel (bl_trans (by go_grown) hbn); replace Pc := P.c3; obtain ⟨⟨A2, c2', rfl⟩, _⟩ := id o1; have O1 := Lib.hid o1.rd; clear o1; clear hbn) | (go_at_call 78; refine (setOf_any A2 c2' (cornerCells x y z) _ hcl O1.out Hcok.out).mono ?_; rintro e wn ⟨rfl, hbn⟩; have hSz := bl_sz (bl_trans hB (by go_grown)) hbn; replace hB := bl_trans (bl_trans hB (by go_grown)) hbn; replace P := P.bel (bl_trans (by go_grown) hbn); replace Pc := P.c3; rw [Ho.out]; clear hbn) | (go_at_call 80; refine (CornerOk_i x y z _).mono ?_; rintro e wn ⟨rfl, hbn⟩; have hSz := bl_sz (bl_trans hB (by go_grown)) hbn; replace hB := bl_trans (bl_trans hB (by go_grown)) hbn; replace P := P.bel (bl_trans (by go_grown) hbn); replace Pc := P.c3; rw [C3.out]; clear hbn))
            go_ret
            exact ⟨ret_bool (by rw [hv.out]), hB⟩
      · have hv := Lib.hid (show cornerTiling rs l = ((s : Int) == 0) by
          rw [cornerTiling, h'.out, HT.out, List.drop_eq_nil_of_le (by have := HN.out; omega), takeL]
          rw [Bool.eq_iff_iff]; simp)
        go_wp2_with fail
        go_ret
        exact ⟨ret_bool (by rw [hv.out]), hB⟩
theorem sub_of_bits {s o : Nat} (h : ∀ i, o.testBit i = true → s.testBit i = true) : s &&& o = o := by
  apply Nat.eq_of_testBit_eq; intro i
  rw [Nat.testBit_and]
  cases ho : o.testBit i
  · simp
  · simp [h i ho]
theorem corner_no {rs : List Int} {l : List (Int × Int × Int)} {s k : Nat} {t : Int × Int × Int} (hT : takeL cOwn cOk (regSet rs) l = takeL cOwn cOk s (l.drop k)) (ht : l[k]? = some t) (h : cOk t = false ∨ s &&& cOwn t ≠ cOwn t) : cornerTiling rs l = false := by
  rw [cornerTiling, hT, takeL_step ht]
  rcases h with h | h
  · simp [h]
  · simp [h]
theorem HasCell_bit {rs : List Int} (h : regOk rs = true) {x y : Int} (hc : cellOk x y = true) : (regOk rs && cellOk x y && regHas rs x y) = (regSet rs).testBit (idxN (x, y)) := by
  rw [regSet_bit h, of_idxN (c := (x, y)) hc, h, hc]; rfl
set_option maxRecDepth 100000 in
set_option maxHeartbeats 1000000 in
theorem IsCornerTiling_s (A : Option Addr) (c : Nat) (rs : List Int) (B : Option Addr) (N d : Nat) (l : List (Int × Int × Int)) (w : World) (hl : rs.length ≤ 1048576) (hN : N = l.length) (hl2 : N ≤ 1048576) (hr : RdI w A rs) (hs : RdT w B l) :
    Calls Try.prog 26 #[.agg #[.slice A rs.length c], .slice B N d] w fun e w' => e = .returned (.bool (cornerTiling rs l)) ∧ Below w.heap.size w w' := by
  have hmk : ∀ w : World, (Instr.makeSlice 86 (.int .i64 64) (.int .i64 64)).run Try.prog w = .ok (.slice (some ⟨w.heap.size, 0, none⟩) 64 64) (w.alloc (.cells (madeCells #[.bool false] 64) 4)) := run_make_row' (P := Try.prog) 86 4 (.bool false) 1 Try.underlying86 info_bool rfl .i64 .i64 64 (by omega) (by omega)
  have hr' := Lib.hid hr
  have hs' := Lib.hid hs
  have HN := Lib.hid hN
  have hB0 := bl_alloc (bl_alloc (Below.refl w.heap.size w) (.cells #[.slice A rs.length c] 39)) (.cells (List.replicate 64 (.bool false)).toArray 4)
  have P0 := (Blk.new w 39 [.slice A rs.length c]).alloc (.cells (List.replicate 64 (.bool false)).toArray 4)
  have M0 := Blk.new2 w (.cells #[.slice A rs.length c] 39) 4 (mkB 0)
  rw [mkB_zero] at M0
  clear hr hs hN
  cases h : regOk rs
  · have hv := Lib.hid (show cornerTiling rs l = false by rw [cornerTiling, h]; rfl)
    have h' := Lib.hid h
    have hB := hB0
    have P := P0
    have Pc := P.c1
    clear h hB0 P0 M0
    go_enter Try.func26, Try.ntmps26
    go_wp2_with fail
    rw [made_list]
    go_loopw [6] (fun q wr => q = .int .i64 0 ∧ Hid (Blk wr w.heap.size 39 [.slice A rs.length c]) ∧ Below w.heap.size w wr) (fun _ _ => 0)
    case atStart => exact ⟨rfl, Lib.hid P, hB⟩
    obtain ⟨rfl, HP, hBr⟩ := hrel
    clear hB P Pc
    have hB := hBr
    have P := HP.out
    have Pc := P.c1
    clear hBr
    rcases Nat.eq_zero_or_pos N with h0 | h0
    · subst h0
      go_wp2_with (go_at_call 73; refine (RegionOk_s A c rs _ hl (hr'.out.below hB)).mono ?_; rintro e wn ⟨rfl, hbn⟩; have hSz := bl_sz (bl_trans hB (by go_grown)) hbn; replace hB := bl_trans (bl_trans hB (by go_grown)) hbn; replace P := P.bel (bl_trans (by go_grown) hbn); replace Pc := P.c1; rw [h'.out]; clear hbn)
      go_ret
      exact ⟨ret_bool (by rw [hv.out]), hB⟩
    · obtain ⟨b, off, x, y, z, rfl, hbl, hv0, hd, ga, gb, gc, c0, c1, c2⟩ := (hs'.out.below hB).at_ (k := 0) (by have := HN.out; omega)
      simp only [Nat.zero_mul, Nat.add_zero] at c0 c1 c2
      clear hv0 hd
      cases c3 : cornerOk x y z
      · have C3 := Lib.hid (show cornerCells x y z = [] by simp [cornerCells, c3])
        clear c3
        go_wp2_with (go_at_call 71; refine (CornerCells_s x y z _).mono ?_; rintro e wn ⟨v, rfl, o1, hbn⟩; have hSz := bl_sz (bl_trans hB (by go_grown)) hbn; replace hB := bl_trans (bl_trans hB (by go_grown)) hbn; replace P := P.bel (bl_trans (by go_grown) hbn); replace Pc := P.c1; rw [C3.out] at o1; obtain ⟨⟨A2, c2', rfl⟩, _⟩ := id o1; clear o1; clear hbn)
        go_ret
        exact ⟨ret_bool (by rw [hv.out]), hB⟩
      · have C3 := Lib.hid (corner_cells c3)
        clear c3
        go_wp2_with (go_at_call 71; refine (CornerCells_s x y z _).mono ?_; rintro e wz ⟨v, rfl, o1, hbn⟩; have hSz := bl_sz (bl_trans hB (by go_grown)) hbn; replace hB := bl_trans (bl_trans hB (by go_grown)) hbn; replace P := P.bel (bl_trans (by go_grown) hbn); replace Pc := P.c1; obtain ⟨⟨A2, c2', rfl⟩, _⟩ := id o1; have O1 := Lib.hid o1; clear o1; rw [C3.out.2.2]; clear hbn)
        go_loopw [8] (fun q wr => q = .int .i64 0 ∧ Hid (Blk wr w.heap.size 39 [.slice A rs.length c]) ∧ Hid (OwC 0 wr (.slice A2 3 c2') (cornerCells x y z)) ∧ Below w.heap.size w wr) (fun _ _ => 0)
        case atStart => exact ⟨rfl, Lib.hid P, Lib.hid (by have := O1.out; rw [C3.out.2.2] at this; exact this.mono (Nat.zero_le _)), hB⟩
        obtain ⟨rfl, HP3, HO3, hBr⟩ := hrel
        clear hB P Pc
        have hB := hBr
        have P := HP3.out
        have Pc := P.c1
        clear hBr
        obtain ⟨b3, off3, ex, ey, hA3, hbl3, hv3, _, _, _, r0, r1⟩ := HO3.out.rd.at_ (k := 0) (by rw [C3.out.2.2]; omega)
        simp only [Nat.zero_mul, Nat.add_zero] at r0 r1
        subst hA3
        have q0 := bq_cell r0
        have q1 := bq_cell r1
        have q2 := bq_cell Pc
        have HSB := Lib.hid (show (regOk rs && cellOk ex ey && regHas rs ex ey) = false by rw [h'.out]; rfl)
        clear r0 r1 Pc hv3
        go_wp2_with fail
        (refine wp_region_quiet_bel (by kernel_rfl) (by kernel_rfl) ?_; (repeat (first | go_big_quiet_step (first | (go_at_call 64; exact Calls.bel_of ((HasCell_s A c rs ex ey _ hl (hr'.out.below (bl_trans hB (BelowOf.bel _)))).mono (fun e w' h => ⟨h.1.trans (ret_bool HSB.out), h.2⟩)))) | quiet_step (first | (go_at_call 64; exact Calls.bel_of ((HasCell_s A c rs ex ey _ hl (hr'.out.below (bl_trans hB (BelowOf.bel _)))).mono (fun e w' h => ⟨h.1.trans (ret_bool HSB.out), h.2⟩)))))); refine wpQuiet_nil ?_; intro wq hw0; obtain ⟨⟨_, hbq⟩, hw1⟩ := hw0; subst hw1; try dsimp only)
        go_wp2_with fail
        go_ret
        exact ⟨ret_bool (by rw [hv.out]), bl_trans hB hbq⟩
  · have hSlt := regSet_lt h
    have h' := Lib.hid h
    obtain ⟨S, hS⟩ : ∃ S, S = regSet rs := ⟨_, rfl⟩
    rw [← hS] at hSlt
    have HS := Lib.hid hS
    clear h hS
    go_enter Try.func26, Try.ntmps26
    go_wp2_with fail
    rw [made_list]
    go_loopw [6] (fun q wr => ∃ k U : Nat, k ≤ N ∧ q = .int .i64 k ∧ U < 18446744073709551616 ∧ Hid (takeL cOwn cOk (regSet rs) l = takeL cOwn cOk (bdiff S U) (l.drop k)) ∧ Hid (card (bdiff S U) + 3 * k = card S) ∧ Hid (Blk wr (w.heap.size + 1) 4 (mkB U)) ∧ Hid (Blk wr w.heap.size 39 [.slice A rs.length c]) ∧ Below w.heap.size w wr) (fun q _ => N - (intOf q).toNat)
    case atStart => exact ⟨0, 0, by omega, rfl, by omega, Lib.hid (by rw [bdiff_zero _ hSlt, ← HS.out]; rfl), Lib.hid (by rw [bdiff_zero _ hSlt]; omega), Lib.hid (by rw [mkB_zero]; exact M0), Lib.hid P0, hB0⟩
    case round =>
      obtain ⟨k, U, hk, rfl, hUl, HT, HC, HM, HP, hB⟩ := hrel
      clear hB0 P0 M0 hmk
      have P := HP.out
      have Pc := P.c1
      by_cases hlt : k < N
      · obtain ⟨b, off, x, y, z, rfl, hbl, hv0, hd, ga, gb, gc, c0, c1, c2⟩ := (hs'.out.below hB).at_ (k := k) (by have := HN.out; omega)
        have HV := Lib.hid hv0
        clear hv0 hd
        cases c3 : cornerOk x y z
        · have C3 := Lib.hid (show cornerCells x y z = [] by simp [cornerCells, c3])
          have hv := Lib.hid (corner_no HT.out HV.out (.inl c3))
          clear c3
          go_wp2_with (go_at_call 71; refine (CornerCells_s x y z _).mono ?_; rintro e wn ⟨v, rfl, o1, hbn⟩; have hSz := bl_sz (bl_trans hB (by go_grown)) hbn; replace hB := bl_trans (bl_trans hB (by go_grown)) hbn; replace P := P.bel (bl_trans (by go_grown) hbn); replace Pc := P.c1; rw [C3.out] at o1; obtain ⟨⟨A2, c2', rfl⟩, _⟩ := id o1; clear o1; clear hbn)
          go_ret
          exact ⟨ret_bool (by rw [hv.out]), hB⟩
        · have C3 := Lib.hid (corner_cells c3)
          have C4 := Lib.hid c3
          have hZw : w.heap.size + 1 < wr.heap.size := HM.out.lt
          obtain ⟨wo, rfl⟩ : ∃ wo : World, wo = wr := ⟨_, rfl⟩
          clear c3
          go_wp2_with (go_at_call 71; refine (CornerCells_s x y z _).mono ?_; rintro e wz ⟨v, rfl, o1, hbn⟩; have hSz := bl_sz (bl_trans hB (by go_grown)) hbn; replace hB := bl_trans (bl_trans hB (by go_grown)) hbn; replace P := P.bel (bl_trans (by go_grown) hbn); replace Pc := P.c1; replace HM := Lib.hid (HM.out.bel hbn); obtain ⟨⟨A2, c2', rfl⟩, _⟩ := id o1; have O1 := Lib.hid o1; clear o1; rw [C3.out.2.2]; clear hbn)
          go_loopw [8] (fun q wr' => ∃ i : Nat, i ≤ 3 ∧ q = .int .i64 i ∧ Hid (∀ e ∈ (cornerCells x y z).take i, (bdiff S U).testBit (idxN e) = true) ∧ Hid (OwC wo.heap.size wr' (.slice A2 3 c2') (cornerCells x y z)) ∧ Hid (Blk wr' (w.heap.size + 1) 4 (mkB (U ||| setL ((cornerCells x y z).take i)))) ∧ Hid (Blk wr' w.heap.size 39 [.slice A rs.length c]) ∧ Below w.heap.size w wr') (fun q _ => 3 - (intOf q).toNat)
          case atStart => exact ⟨0, by omega, rfl, Lib.hid (by simp), Lib.hid (by have := O1.out; rw [C3.out.2.2] at this; exact this), Lib.hid (by simpa [setL] using HM.out), Lib.hid P, hB⟩
          case round =>
            obtain ⟨i, hi, rfl, HA, HO, HM2, HP2, hB2⟩ := hrel
            clear hB HM P Pc HP O1
            have hB := hB2
            have P := HP2.out
            have Pc := P.c1
            clear hB2
            obtain ⟨cs, hcs⟩ : ∃ cs, cs = cornerCells x y z := ⟨_, rfl⟩
            rw [← hcs] at HA HO HM2 C3
            have HCS := Lib.hid hcs
            clear hcs
            by_cases hi3 : i < 3
            · obtain ⟨b3, off3, ex, ey, hA3, hbl3, hv3, _, _, _, r0, r1⟩ := HO.out.rd.at_ (k := i) (by rw [C3.out.2.2]; exact hi3)
              have hmem : (ex, ey) ∈ cs := List.mem_of_getElem? hv3
              have hec := C3.out.1 _ hmem
              dsimp only at hec
              subst hA3
              obtain ⟨n1, hn1⟩ : ∃ n1, n1 = idxN (ex, ey) := ⟨_, rfl⟩
              have hn64 : n1 < 64 := by rw [hn1]; exact idxN_lt hec
              have hII : ∀ w : World, Calls Try.prog 72 #[.agg #[.int .i64 ex, .int .i64 ey]] w fun e w' => e = .returned (.int .i64 (n1 : Nat)) ∧ Below w.heap.size w w' := fun w => by rw [hn1]; exact CellIndex_n ex ey w hec
              have HI := Lib.hid hII
              have hsb := HasCell_bit h'.out hec
              rw [← HS.out, ← hn1] at hsb
              have hnt : (setL (cs.take i)).testBit n1 = false := by
                rw [setL_bit, decide_eq_false_iff_not]
                rintro ⟨e, he, hee⟩
                rw [hn1] at hee
                have h1 := idxN_inj (C3.out.1 e (List.mem_of_mem_take he)) hec hee
                subst h1
                have hnd := C3.out.2.1
                rw [← List.take_append_drop i cs, List.nodup_append] at hnd
                exact hnd.2.2 _ he _ (by rw [drop_at hv3]; simp) rfl
              have m0 := HM2.out.getB hn64
              have q0 := bq_cell r0
              have q1 := bq_cell r1
              have q2 := bq_cell Pc
              have hown : (cOwn (x, y, z)).testBit n1 = true := by
                unfold cOwn; dsimp only; rw [← HCS.out, setL_bit, decide_eq_true_eq]; exact ⟨_, hmem, hn1.symm⟩
              have HOwn := Lib.hid hown
              have HN1 := Lib.hid hn1
              have HV3 := Lib.hid hv3
              have HNT := Lib.hid hnt
              clear hII hn1 hown hv3 hmem hnt Pc
              cases t1 : S.testBit n1
              · have HSB := Lib.hid (hsb.trans t1)
                have hv := Lib.hid (show cornerTiling rs l = false from corner_no HT.out HV.out (.inr fun e => by
                  have := sub_bit e n1 HOwn.out
                  rw [bdiff_bit hSlt hUl, t1] at this; cases this))
                clear t1 hsb r0 r1 m0
                go_wp2_with fail
                (refine wp_region_quiet_bel (by kernel_rfl) (by kernel_rfl) ?_; (repeat (first | go_big_quiet_step (first | (go_at_call 64; exact Calls.bel_of ((HasCell_s A c rs ex ey _ hl (hr'.out.below (bl_trans hB (BelowOf.bel _)))).mono (fun e w' h => ⟨h.1.trans (ret_bool HSB.out), h.2⟩))) | (go_at_call 72; exact Calls.bel_of (HI.out _))) | quiet_step (first | (go_at_call 64; exact Calls.bel_of ((HasCell_s A c rs ex ey _ hl (hr'.out.below (bl_trans hB (BelowOf.bel _)))).mono (fun e w' h => ⟨h.1.trans (ret_bool HSB.out), h.2⟩))) | (go_at_call 72; exact Calls.bel_of (HI.out _))))); refine wpQuiet_nil ?_; intro wq hw0; obtain ⟨⟨_, hbq⟩, hw1⟩ := hw0; subst hw1; try dsimp only)
                go_wp2_with fail
                go_ret
                exact ⟨ret_bool (by rw [hv.out]), bl_trans hB hbq⟩
              · have HSB := Lib.hid (hsb.trans t1)
                cases t2 : (U ||| setL (cs.take i)).testBit n1
                · rw [t2] at m0
                  have q3 := bq_cell m0
                  have HU := Lib.hid (show U.testBit n1 = false by
                    rw [Nat.testBit_or, HNT.out, Bool.or_false] at t2; exact t2)
                  have HT1 := Lib.hid t1
                  clear t1 hsb t2 m0
                  go_wp2_with fail
                  (refine wp_region_quiet_bel (by kernel_rfl) (by kernel_rfl) ?_; (repeat (first | go_big_quiet_step (first | (go_at_call 64; exact Calls.bel_of ((HasCell_s A c rs ex ey _ hl (hr'.out.below (bl_trans hB (BelowOf.bel _)))).mono (fun e w' h => ⟨h.1.trans (ret_bool HSB.out), h.2⟩))) | (go_at_call 72; exact Calls.bel_of (HI.out _))) | quiet_step (first | (go_at_call 64; exact Calls.bel_of ((HasCell_s A c rs ex ey _ hl (hr'.out.below (bl_trans hB (BelowOf.bel _)))).mono (fun e w' h => ⟨h.1.trans (ret_bool HSB.out), h.2⟩))) | (go_at_call 72; exact Calls.bel_of (HI.out _))))); refine wpQuiet_nil ?_; intro wq hw0; obtain ⟨⟨_, hbq⟩, hw1⟩ := hw0; subst hw1; try dsimp only)
                  replace hB := bl_trans hB hbq
                  replace HO := Lib.hid (HO.out.bel hbq)
                  replace P := P.bel hbq
                  have M := HM2.out.bel hbq
                  have f0 := q0 ⟨wq, hbq⟩
                  have f1 := q1 ⟨wq, hbq⟩
                  dsimp only at f0 f1
                  clear q0 q1 q2 q3 r0 r1 HM2
                  go_wp2_with (go_at_call 72; refine (HI.out _).mono ?_; rintro e wn ⟨rfl, hbn⟩; replace M := M.bel hbn; have m0 := M.getB hn64; have mf := M.frozen n1; replace M := M.setB n1; replace P := (P.bel hbn).farN (w.heap.size + 1) n1 (by omega) (.bool true); replace HO := Lib.hid ((HO.out.bel hbn).set' (p := ⟨w.heap.size + 1, n1, none⟩) hZw (.bool true)); replace hB := bl_set (bl_trans hB hbn) (p := ⟨w.heap.size + 1, n1, none⟩) (by show w.heap.size ≤ w.heap.size + 1; omega) (.bool true))
                  go_roundw
                  case rel => exact ⟨i + 1, by omega, by go_num, Lib.hid (by
                      intro e he
                      rw [← HCS.out, take_snoc_at HV3.out, List.mem_append, List.mem_singleton] at he
                      rcases he with he | rfl
                      · exact HA.out e he
                      · rw [← HN1.out, bdiff_bit hSlt hUl, HT1.out, HU.out]; rfl), by rw [HCS.out] at HO; exact HO, Lib.hid (by
                      rw [← HCS.out, take_snoc_at HV3.out, setL_snoc, ← Nat.or_assoc]
                      have e1 : nthBit (ex, ey).1 (ex, ey).2 = 2 ^ n1 := by rw [HN1.out]; rfl
                      rw [e1]; exact M), Lib.hid P, hB⟩
                  case measure => simp [intOf]; omega
                · rw [t2] at m0
                  have q3 := bq_cell m0
                  have hv := Lib.hid (show cornerTiling rs l = false from corner_no HT.out HV.out (.inr fun e => by
                    have := sub_bit e n1 HOwn.out
                    rw [bdiff_bit hSlt hUl] at this
                    rw [Nat.testBit_or, HNT.out, Bool.or_false] at t2
                    rw [t2] at this; simp at this))
                  clear t1 hsb t2 m0
                  go_wp2_with fail
                  (refine wp_region_quiet_bel (by kernel_rfl) (by kernel_rfl) ?_; (repeat (first | go_big_quiet_step (first | (go_at_call 64; exact Calls.bel_of ((HasCell_s A c rs ex ey _ hl (hr'.out.below (bl_trans hB (BelowOf.bel _)))).mono (fun e w' h => ⟨h.1.trans (ret_bool HSB.out), h.2⟩))) | (go_at_call 72; exact Calls.bel_of (HI.out _))) | quiet_step (first | (go_at_call 64; exact Calls.bel_of ((HasCell_s A c rs ex ey _ hl (hr'.out.below (bl_trans hB (BelowOf.bel _)))).mono (fun e w' h => ⟨h.1.trans (ret_bool HSB.out), h.2⟩))) | (go_at_call 72; exact Calls.bel_of (HI.out _))))); refine wpQuiet_nil ?_; intro wq hw0; obtain ⟨⟨_, hbq⟩, hw1⟩ := hw0; subst hw1; try dsimp only)
                  go_wp2_with fail
                  go_ret
                  exact ⟨ret_bool (by rw [hv.out]), bl_trans hB hbq⟩
            · have hi4 : i = 3 := by omega
              have htk : cs.take i = cs := List.take_of_length_le (by rw [C3.out.2.2]; omega)
              have HA2 := HA.out
              have M := HM2.out
              rw [htk] at HA2 M
              have hoe : cOwn (x, y, z) = setL cs := by unfold cOwn; dsimp only; rw [← HCS.out]
              have hsub : bdiff S U &&& cOwn (x, y, z) = cOwn (x, y, z) := sub_of_bits fun j hj => by
                rw [hoe, setL_bit, decide_eq_true_eq] at hj
                obtain ⟨e, he, rfl⟩ := hj
                exact HA2 e he
              have hol := cOwn_lt (x, y, z)
              have hstep := takeL_step (own := cOwn) (ok := cOk) (s := bdiff S U) HV.out
              rw [show cOk (x, y, z) = true from C4.out, hsub, Bool.true_and, if_pos (by simp), ← bdiff_or hSlt hUl hol, hoe] at hstep
              have hcd := card_diff (bdiff_lt (b := U) hSlt) hol hsub
              rw [← bdiff_or hSlt hUl hol, hoe, card_setL C3.out.1 C3.out.2.1, C3.out.2.2] at hcd
              have hul2 : U ||| setL cs < 18446744073709551616 := or_lt hUl (hoe ▸ hol)
              have HT2 := Lib.hid (HT.out.trans hstep)
              have HC2 := Lib.hid (show card (bdiff S (U ||| setL cs)) + 3 * (k + 1) = card S by have := HC.out; omega)
              have HM3 := Lib.hid M
              clear htk HA2 M hoe hsub hol hstep hcd hi4
              go_wp2_with fail
              go_roundw
              case rel => exact ⟨k + 1, U ||| setL cs, by omega, by go_num, hul2, HT2, HC2, HM3, Lib.hid P, hB⟩
              case measure => simp [intOf]; omega
      · have hfin : cornerTiling rs l = decide (3 * N = card S) := by
          rw [cornerTiling, h'.out, HT.out, List.drop_eq_nil_of_le (by have := HN.out; omega), takeL, Bool.true_and]
          have h1 := HC.out
          have h2 := card_zero (bdiff_lt (b := U) hSlt)
          have h3 : k = N := by omega
          rw [Bool.eq_iff_iff, decide_eq_true_eq, beq_iff_eq, Option.some.injEq, ← h2]
          omega
        have hcc : (regCells rs).length = card S := by rw [regCells_set h'.out, card_cells, HS.out]
        have hcl := regCells_len rs
        have HF := Lib.hid hfin
        have HCC := Lib.hid hcc
        rw [hcc] at hcl
        have hw3 : IntKind.i64.wrap (3 * (N : Int)) = 3 * (N : Int) := IntWalk.i64_in _ (by omega)
        clear hfin hcc
        go_wp2_with (first | (go_at_call 73; refine (RegionOk_s A c rs _ hl (hr'.out.below hB)).mono ?_; rintro e wn ⟨rfl, hbn⟩; have hSz := bl_sz (bl_trans hB (by go_grown)) hbn; replace hB := bl_trans (bl_trans hB (by go_grown)) hbn; replace P := P.bel (bl_trans (by go_grown) hbn); replace Pc := P.c1; rw [h'.out]; clear hbn) | (go_at_call 74; refine (CountCells_s A c rs _ hl (hr'.out.below hB)).mono ?_; rintro e wn ⟨rfl, hbn⟩; have hSz := bl_sz (bl_trans hB (by go_grown)) hbn; replace hB := bl_trans (bl_trans hB (by go_grown)) hbn; replace P := P.bel (bl_trans (by go_grown) hbn); replace Pc := P.c1; rw [HCC.out]; clear hbn))
        go_ret
        exact ⟨ret_bool (by
          rw [HF.out]
          rw [Bool.eq_iff_iff, decide_eq_true_eq, beq_iff_eq]; omega), hB⟩
end Go.Proofs.Ytmhgifdnnlijcaa

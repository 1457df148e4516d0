/-
  Tiles laid one after another on a set of cells (a plain model), and the contracts of IsCornerTiling (both): what each returns, as a function of its arguments; nothing that was there is written; at most 1048576 tiles.
-/
import Derived.Test.YtdcjhfmkkcakhaaMarks
import Derived.Test.YtdcjhfmkkcakhaaReach
import Derived.Test.YtdcjhfmkkcakhaaCorner
namespace Go.Proofs.Ytdcjhfmkkcakhaa
open Go.ChangeShapes Go.WideShapes Go.ChangeAt Go.RowKit Go.Deep
set_option linter.unusedVariables false

def bdiff (a b : Nat) : Nat := a &&& (18446744073709551615 - b)
theorem bdiff_lt {a b : Nat} (ha : a < 18446744073709551616) : bdiff a b < 18446744073709551616 := and_lt ha
theorem bdiff_bit {a b : Nat} (ha : a < 18446744073709551616) (hb : b < 18446744073709551616) (i : Nat) : (bdiff a b).testBit i = (a.testBit i && !b.testBit i) := by
  unfold bdiff
  rw [Nat.testBit_and]
  by_cases hi : i < 64
  · have e : 18446744073709551615 - b = 2 ^ 64 - (b + 1) := by omega
    rw [e, Nat.testBit_two_pow_sub_succ (by omega)]
    simp [hi]
  · have : a.testBit i = false := Nat.testBit_lt_two_pow (Nat.lt_of_lt_of_le ha (by
      have : 2 ^ 64 ≤ 2 ^ i := Nat.pow_le_pow_right (by decide) (by omega)
      omega))
    simp [this]
theorem bdiff_zero (a : Nat) (ha : a < 18446744073709551616) : bdiff a 0 = a := by
  apply Nat.eq_of_testBit_eq; intro i
  rw [bdiff_bit ha (by omega)]; simp
theorem bdiff_or {a b c : Nat} (ha : a < 18446744073709551616) (hb : b < 18446744073709551616) (hc : c < 18446744073709551616) : bdiff a (b ||| c) = bdiff (bdiff a b) c := by
  apply Nat.eq_of_testBit_eq; intro i
  rw [bdiff_bit ha (or_lt hb hc), bdiff_bit (bdiff_lt ha) hc, bdiff_bit ha hb, Nat.testBit_or]
  cases a.testBit i <;> cases b.testBit i <;> cases c.testBit i <;> rfl
def card (s : Nat) : Nat := ((List.range 64).filter s.testBit).length
theorem card_cells (s : Nat) : (cellsBy s.testBit 64).length = card s := by simp [cellsBy, card]
theorem filter_diff (p q : Nat → Bool) : ∀ l : List Nat, (∀ i ∈ l, q i = true → p i = true) → (l.filter fun i => p i && !q i).length + (l.filter q).length = (l.filter p).length := by
  intro l
  induction l with
  | nil => intro _; rfl
  | cons i l ih =>
    intro h
    have h1 := ih fun j hj => h j (by simp [hj])
    have h2 := h i (by simp)
    cases hq : q i
    · cases hp : p i
      · simp only [List.filter_cons, hq, hp]; simpa using h1
      · simp only [List.filter_cons, hq, hp]; simp; omega
    · have hp := h2 hq
      simp only [List.filter_cons, hq, hp]; simp; omega
theorem sub_bit {a b : Nat} (h : a &&& b = b) (i : Nat) (hb : b.testBit i = true) : a.testBit i = true := by
  rw [← h, Nat.testBit_and, Bool.and_eq_true] at hb; exact hb.1
theorem card_diff {a b : Nat} (ha : a < 18446744073709551616) (hb : b < 18446744073709551616) (h : a &&& b = b) : card (bdiff a b) + card b = card a := by
  have := filter_diff a.testBit b.testBit (List.range 64) fun i _ hi => sub_bit h i hi
  unfold card
  rw [← this]
  congr 2
  exact List.filter_congr fun i _ => bdiff_bit ha hb i
theorem card_zero {s : Nat} (hs : s < 18446744073709551616) : card s = 0 ↔ s = 0 := by
  constructor
  · intro h
    apply Nat.eq_of_testBit_eq; intro i
    rw [Nat.zero_testBit]
    by_cases hi : i < 64
    · have := List.eq_nil_of_length_eq_zero h
      rw [List.filter_eq_nil_iff] at this
      simpa using this i (List.mem_range.2 hi)
    · exact Nat.testBit_lt_two_pow (Nat.lt_of_lt_of_le hs (by
        have : 2 ^ 64 ≤ 2 ^ i := Nat.pow_le_pow_right (by decide) (by omega)
        omega))
  · rintro rfl; simp [card]
theorem nodup_sub' : ∀ {a b : List Cl}, a.Nodup → (∀ x ∈ a, x ∈ b) → a.length ≤ b.length := by
  intro a
  induction a with
  | nil => intro b _ _; simp
  | cons x a ih =>
    intro b hd h
    rw [List.nodup_cons] at hd
    have hx := h x (by simp)
    have := ih (b := b.erase x) hd.2 fun y hy => by
      have : y ≠ x := fun e => hd.1 (e ▸ hy)
      exact (List.mem_erase_of_ne this).2 (h y (by simp [hy]))
    rw [List.length_erase_of_mem hx] at this
    have hb : 0 < b.length := List.length_pos_of_mem hx
    simp only [List.length_cons]; omega
theorem cellsBy_nodup (p : Nat → Bool) : (cellsBy p 64).Nodup := by
  unfold cellsBy
  refine map_nodup (fun a _ b _ e => by rw [← idxN_of a, ← idxN_of b, e]) ?_
  exact (List.nodup_range).filter _
theorem card_setL {cs : List Cl} (hok : ∀ c ∈ cs, cellOk c.1 c.2 = true) (hd : cs.Nodup) : card (setL cs) = cs.length := by
  have hm : ∀ c, c ∈ cellsBy (setL cs).testBit 64 ↔ c ∈ cs := fun c => by
    rw [mem_cellsBy, setL_bit, decide_eq_true_eq]
    constructor
    · rintro ⟨h, d, hd2, e⟩
      exact idxN_inj (hok d hd2) h e ▸ hd2
    · intro h; exact ⟨hok c h, c, h, rfl⟩
  rw [← card_cells]
  have h1 := nodup_sub' (cellsBy_nodup (setL cs).testBit) (fun c hc => (hm c).1 hc)
  have h2 := nodup_sub' hd (fun c hc => (hm c).2 hc)
  omega
/-- Tiles laid one after another: what is left of a set, if each tile lies in what is left. -/
def takeL {α : Type} (own : α → Nat) (ok : α → Bool) : Nat → List α → Option Nat
  | s, [] => some s
  | s, t :: l => if ok t && (s &&& own t == own t) then takeL own ok (bdiff s (own t)) l else none
theorem takeL_step {α : Type} {own : α → Nat} {ok : α → Bool} {s k : Nat} {l : List α} {t : α} (h : l[k]? = some t) : takeL own ok s (l.drop k) = if ok t && (s &&& own t == own t) then takeL own ok (bdiff s (own t)) (l.drop (k + 1)) else none := by
  rw [drop_at h, takeL]
/-! ### corner tiles -/
def cOwn (t : Int × Int × Int) : Nat := setL (cornerCells t.1 t.2.1 t.2.2)
def cOk (t : Int × Int × Int) : Bool := cornerOk t.1 t.2.1 t.2.2
def cornerTiling (rs : List Int) (l : List (Int × Int × Int)) : Bool := regOk rs && (takeL cOwn cOk (regSet rs) l == some 0)
theorem corner_cells {x y z : Int} (h : cornerOk x y z = true) : (∀ c ∈ cornerCells x y z, cellOk c.1 c.2 = true) ∧ (cornerCells x y z).Nodup ∧ (cornerCells x y z).length = 3 := by
  have hz := cornerOk_iff.1 h
  have hok : ∀ c ∈ cornerCells x y z, cellOk c.1 c.2 = true := fun c hc => by
    rw [cornerCells, if_pos h, ccUpto, List.mem_map] at hc
    obtain ⟨j, hj, rfl⟩ := hc
    have := (List.mem_filter.1 hj).1
    rw [List.mem_range] at this
    apply cellOk_iff.2
    dsimp only
    omega
  refine ⟨hok, ?_, ?_⟩
  · rw [cornerCells, if_pos h, ccUpto]
    refine map_nodup (fun a ha b hb e => ?_) ((List.nodup_range).filter _)
    have h1 := (List.mem_filter.1 ha).1
    have h2 := (List.mem_filter.1 hb).1
    rw [List.mem_range] at h1 h2
    injection e with e1 e2
    omega
  · rw [cornerCells, if_pos h, ccUpto, List.length_map]
    rcases (show z = 0 ∨ z = 1 ∨ z = 2 ∨ z = 3 by omega) with rfl | rfl | rfl | rfl <;> decide
theorem cOwn_lt (t : Int × Int × Int) : cOwn t < 18446744073709551616 := by
  unfold cOwn
  cases h : cornerOk t.1 t.2.1 t.2.2
  · simp [cornerCells, h, setL]
  · exact setL_lt (corner_cells h).1
set_option maxRecDepth 100000 in
set_option maxHeartbeats 1000000 in
theorem IsCornerTiling_i (A : Option Addr) (c : Nat) (rs : List Int) (B : Option Addr) (N d : Nat) (l : List (Int × Int × Int)) (w : World) (hl : rs.length ≤ 1048576) (hN : N = l.length) (hl2 : N ≤ 1048576) (hr : RdI w A rs) (hs : RdT w B l) :
    Calls Try.prog 42 #[.agg #[.slice A rs.length c], .slice B N d] w fun e w' => e = .returned (.bool (cornerTiling rs l)) ∧ Below w.heap.size w w' := by
  (have hB := Below.refl w.heap.size w; have P := Blk.new w 31 [.slice A rs.length c]; have Pc := P.c1)
  have hr' := Lib.hid hr
  have hs' := Lib.hid hs
  have HN := Lib.hid hN
  clear hr hs hN
  cases h : regOk rs
  · have hv := Lib.hid (show cornerTiling rs l = false by rw [cornerTiling, h]; rfl)
    go_enter Try.func42, Try.ntmps42
    go_wp2_with (go_at_call 98; refine (RegionOk_i A c rs _ hl (hr'.out.below (bl_trans hB (by go_grown)))).mono ?_; rintro e wn ⟨rfl, hbn⟩; have hSz := bl_sz (bl_trans hB (by go_grown)) hbn; replace hB := bl_trans (bl_trans hB (by go_grown)) hbn; replace P := P.bel (bl_trans (by go_grown) hbn); replace Pc := P.c1; clear hbn)
    go_ret
    exact ⟨ret_bool (by rw [hv.out]), (by first | (go_grown; done) | exact bl_trans hB (by go_grown))⟩
  · have h' := Lib.hid h
    go_enter Try.func42, Try.ntmps42
    go_wp2_with (first | (go_at_call 98; refine (RegionOk_i A c rs _ hl (hr'.out.below (bl_trans hB (by go_grown)))).mono ?_; rintro e wn ⟨rfl, hbn⟩; have hSz := bl_sz (bl_trans hB (by go_grown)) hbn; replace hB := bl_trans (bl_trans hB (by go_grown)) hbn; replace P := P.bel (bl_trans (by go_grown) hbn); replace Pc := P.c1; clear hbn) | (go_at_call 121; refine (rset_any A c rs _ h'.out (hr'.out.below (bl_trans hB (by go_grown)))).mono ?_; rintro e wn ⟨rfl, hbn⟩; have hSz := bl_sz (bl_trans hB (by go_grown)) hbn; replace hB := bl_trans (bl_trans hB (by go_grown)) hbn; clear hbn))
    go_loopw [5, 16] (fun v i wr => ∃ k : Nat, ∃ s : Nat, k ≤ N ∧ i = .int .i64 k ∧ v = .int .u64 (s : Int) ∧ s < 18446744073709551616 ∧ Hid (takeL cOwn cOk (regSet rs) l = takeL cOwn cOk s (l.drop k)) ∧ Below w.heap.size w wr) (fun _ i _ => N - (intOf i).toNat)
    case atStart => exact ⟨0, regSet rs, by omega, rfl, rfl, regSet_lt h'.out, Lib.hid rfl, hB⟩
    case round =>
      obtain ⟨k, s, hk, rfl, rfl, hsl, HT, hBr⟩ := hrel
      clear hB P Pc
      have hB := hBr
      clear hBr
      by_cases hlt : k < N
      · obtain ⟨b, off, x, y, z, rfl, hbl, hv, hd, ga, gb, gc, c0, c1, c2⟩ := (hs'.out.below hB).at_ (k := k) (by have := HN.out; omega)
        have hstep := takeL_step (own := cOwn) (ok := cOk) (s := s) hv
        rw [← HT.out] at hstep
        have Hst := Lib.hid hstep
        have P := Blk.new wr 68 [.int .i64 x, .int .i64 y, .int .i64 z]
        have Pc := P.c3
        replace hB := bl_alloc hB (.cells #[.int .i64 x, .int .i64 y, .int .i64 z] 68)
        have hcl : (cornerCells x y z).length ≤ 1048576 := by unfold cornerCells; split; · have := ccUpto_len x y z 4; omega
                                                              · simp
        have hcok : ∀ c ∈ cornerCells x y z, cellOk c.1 c.2 = true := by
          cases h : cornerOk x y z
          · simp [cornerCells, h]
          · exact (corner_cells h).1
        have Hcok := Lib.hid hcok
        have hol := cOwn_lt (x, y, z)
        obtain ⟨o, ho⟩ : ∃ o, o = cOwn (x, y, z) := ⟨_, rfl⟩
        have Ho := Lib.hid (show setL (cornerCells x y z) = o from ho.symm)
        rw [← ho] at hol
        have hand := u64_and_nat s o hsl hol
        have handn := u64_andNot_nat s o hsl hol
        have HO := Lib.hid ho
        clear hv hd hstep hcok ho
        cases c3 : cornerOk x y z
        · have hv := Lib.hid (show cornerTiling rs l = false by rw [cornerTiling, Hst.out]; simp [cOk, c3])
          have C3 := Lib.hid c3
          clear c3
          go_wp2_with (first | (go_at_call 41; refine (CornerCells_i x y z _).mono ?_; rintro e wn ⟨v, rfl, o1, hbn⟩; have hSz := bl_sz (bl_trans hB (by go_grown)) hbn; replace hB := bl_trans (bl_trans hB (by go_grown)) hbn; replace P := P.bel (bl_trans (by go_grown) hbn); replace Pc := P.c3; obtain ⟨⟨A2, c2', rfl⟩, _⟩ := id o1; have O1 := Lib.hid o1.rd; clear o1; clear hbn) | (go_at_call 122; refine (setOf_any A2 c2' (cornerCells x y z) _ hcl O1.out Hcok.out).mono ?_; rintro e wn ⟨rfl, hbn⟩; have hSz := bl_sz (bl_trans hB (by go_grown)) hbn; replace hB := bl_trans (bl_trans hB (by go_grown)) hbn; replace P := P.bel (bl_trans (by go_grown) hbn); replace Pc := P.c3; rw [Ho.out]; clear hbn) | (go_at_call 40; refine (CornerOk_i x y z _).mono ?_; rintro e wn ⟨rfl, hbn⟩; have hSz := bl_sz (bl_trans hB (by go_grown)) hbn; replace hB := bl_trans (bl_trans hB (by go_grown)) hbn; replace P := P.bel (bl_trans (by go_grown) hbn); replace Pc := P.c3; rw [C3.out]; clear hbn))
          go_ret
          exact ⟨ret_bool (by rw [hv.out]), hB⟩
        · have C3 := Lib.hid c3
          by_cases c4 : s &&& o = o
          · have C4 := Lib.hid c4
            have hne : (bits BinOp.and IntKind.u64 (s : Int) (o : Int) != (o : Int)) = false := by rw [hand, c4]; simp
            have hnx := Lib.hid (show takeL cOwn cOk (regSet rs) l = takeL cOwn cOk (bdiff s o) (l.drop (k + 1)) by
              rw [Hst.out, ← HO.out, c4]; simp [cOk, c3])
            have hbd := Lib.hid (show ((s &&& (18446744073709551615 - o) : Nat) : Int) = ((bdiff s o : Nat) : Int) from rfl)
            clear c3 c4 hand
            go_wp2_with (first | (go_at_call 41; refine (CornerCells_i x y z _).mono ?_; rintro e wn ⟨v, rfl, o1, hbn⟩; have hSz := bl_sz (bl_trans hB (by go_grown)) hbn; replace hB := bl_trans (bl_trans hB (by go_grown)) hbn; replace P := P.bel (bl_trans (by go_grown) hbn); replace Pc := P.c3; obtain ⟨⟨A2, c2', rfl⟩, _⟩ := id o1; have O1 := Lib.hid o1.rd; clear o1; clear hbn) | (go_at_call 122; refine (setOf_any A2 c2' (cornerCells x y z) _ hcl O1.out Hcok.out).mono ?_; rintro e wn ⟨rfl, hbn⟩; have hSz := bl_sz (bl_trans hB (by go_grown)) hbn; replace hB := bl_trans (bl_trans hB (by go_grown)) hbn; replace P := P.bel (bl_trans (by go_grown) hbn); replace Pc := P.c3; rw [Ho.out]; clear hbn) | (go_at_call 40; refine (CornerOk_i x y z _).mono ?_; rintro e wn ⟨rfl, hbn⟩; have hSz := bl_sz (bl_trans hB (by go_grown)) hbn; replace hB := bl_trans (bl_trans hB (by go_grown)) hbn; replace P := P.bel (bl_trans (by go_grown) hbn); replace Pc := P.c3; rw [C3.out]; clear hbn))
            go_roundw
            case rel => exact ⟨k + 1, bdiff s o, by omega, by go_num, by rfl, bdiff_lt hsl, hnx, hB⟩
            case measure => simp [intOf]; omega
          · have hne : (bits BinOp.and IntKind.u64 (s : Int) (o : Int) != (o : Int)) = true := by rw [hand]; simp only [bne_iff_ne, ne_eq]; omega
            have hv := Lib.hid (show cornerTiling rs l = false by
              rw [cornerTiling, Hst.out, ← HO.out]; simp [cOk, c3, c4])
            clear c3 c4 hand handn
            go_wp2_with (first | (go_at_call 41; refine (CornerCells_i x y z _).mono ?_; rintro e wn ⟨v, rfl, o1, hbn⟩; have hSz := bl_sz (bl_trans hB (by go_grown)) hbn; replace hB := bl_trans (bl_trans hB (by go_grown)) hbn; replace P := P.bel (bl_trans (by go_grown) hbn); replace Pc := P.c3; obtain ⟨⟨A2, c2', rfl⟩, _⟩ := id o1; have O1 := Lib.hid o1.rd; clear o1; clear hbn) | (go_at_call 122; refine (setOf_any A2 c2' (cornerCells x y z) _ hcl O1.out Hcok.out).mono ?_; rintro e wn ⟨rfl, hbn⟩; have hSz := bl_sz (bl_trans hB (by go_grown)) hbn; replace hB := bl_trans (bl_trans hB (by go_grown)) hbn; replace P := P.bel (bl_trans (by go_grown) hbn); replace Pc := P.c3; rw [Ho.out]; clear hbn) | (go_at_call 40; refine (CornerOk_i x y z _).mono ?_; rintro e wn ⟨rfl, hbn⟩; have hSz := bl_sz (bl_trans hB (by go_grown)) hbn; replace hB := bl_trans (bl_trans hB (by go_grown)) hbn; replace P := P.bel (bl_trans (by go_grown) hbn); replace Pc := P.c3; rw [C3.out]; clear hbn))
            go_ret
            exact ⟨ret_bool (by rw [hv.out]), hB⟩
      · have hv := Lib.hid (show cornerTiling rs l = ((s : Int) == 0) by
          rw [cornerTiling, h'.out, HT.out, List.drop_eq_nil_of_le (by have := HN.out; omega), takeL]
          rw [Bool.eq_iff_iff]; simp)
        go_wp2_with fail
        go_ret
        exact ⟨ret_bool (by rw [hv.out]), hB⟩
theorem sub_of_bits {s o : Nat} (h : ∀ i, o.testBit i = true → s.testBit i = true) : s &&& o = o := by
  apply Nat.eq_of_testBit_eq; intro i
  rw [Nat.testBit_and]
  cases ho : o.testBit i
  · simp
  · simp [h i ho]
theorem corner_no {rs : List Int} {l : List (Int × Int × Int)} {s k : Nat} {t : Int × Int × Int} (hT : takeL cOwn cOk (regSet rs) l = takeL cOwn cOk s (l.drop k)) (ht : l[k]? = some t) (h : cOk t = false ∨ s &&& cOwn t ≠ cOwn t) : cornerTiling rs l = false := by
  rw [cornerTiling, hT, takeL_step ht]
  rcases h with h | h
  · simp [h]
  · simp [h]
theorem HasCell_bit {rs : List Int} (h : regOk rs = true) {x y : Int} (hc : cellOk x y = true) : (regOk rs && cellOk x y && regHas rs x y) = (regSet rs).testBit (idxN (x, y)) := by
  rw [regSet_bit h, of_idxN (c := (x, y)) hc, h, hc]; rfl
end Go.Proofs.Ytdcjhfmkkcakhaa

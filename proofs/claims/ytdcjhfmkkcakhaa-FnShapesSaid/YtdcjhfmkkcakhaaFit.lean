/-
  Contracts of the functions that fit cells into the corner (fitted, l29Fit, FitShape): what each returns, as a function of its arguments; nothing that was there is written; at most 1048576 cells.
-/
import Derived.Test.YtdcjhfmkkcakhaaShape
import Derived.Test.YtdcjhfmkkcakhaaConv
import Derived.Test.YtdcjhfmkkcakhaaSeg
import Derived.Deep.CutBlock
import Derived.Deep.DeepMust
namespace Go.Proofs.Ytdcjhfmkkcakhaa
open Go.ChangeShapes Go.WideShapes Go.ChangeAt Go.RowKit Go.Deep
set_option linter.unusedVariables false

/-! ### the plain model -/
def gtC (a b : Cl) : Bool := decide (b.2 < a.2) || (a.2 == b.2 && decide (b.1 < a.1))
def cAtC (l : List Cl) (i : Nat) : Cl := (l[i]?).getD (0, 0)
def posC (out : List Cl) (c : Cl) : Nat → Nat
  | 0 => 0
  | k + 1 => if gtC (cAtC out k) c then posC out c k else k + 1
def insC (out : List Cl) (c : Cl) : List Cl := out.take (posC out c out.length) ++ c :: out.drop (posC out c out.length)
def moveC (x y : Int) (d : Cl) : Cl := (d.1 - x, d.2 - y)
def fitTo (l : List Cl) (x y : Int) : List Cl := (l.map (moveC x y)).foldl insC []
def fitL (l : List Cl) : List Cl := fitTo l (lowX l) (lowY l)
theorem posC_le (out : List Cl) (c : Cl) : ∀ k, posC out c k ≤ k := by
  intro k
  induction k with
  | zero => simp [posC]
  | succ k ih =>
    rw [posC]
    split
    · omega
    · omega
theorem insC_len (out : List Cl) (c : Cl) : (insC out c).length = out.length + 1 := by
  have := posC_le out c out.length
  simp [insC]; omega
theorem insC_mem {out : List Cl} {c d : Cl} : d ∈ insC out c ↔ d = c ∨ d ∈ out := by
  unfold insC
  rw [List.mem_append, List.mem_cons]
  constructor
  · rintro (h | h | h)
    · exact .inr (List.mem_of_mem_take h)
    · exact .inl h
    · exact .inr (List.mem_of_mem_drop h)
  · rintro (h | h)
    · exact .inr (.inl h)
    · rw [← List.take_append_drop (posC out c out.length) out, List.mem_append] at h
      rcases h with h | h
      · exact .inl h
      · exact .inr (.inr h)
theorem foldIns_len (l : List Cl) : ∀ out : List Cl, (l.foldl insC out).length = out.length + l.length := by
  induction l with
  | nil => intro out; rfl
  | cons c l ih => intro out; rw [List.foldl_cons, ih, insC_len, List.length_cons]; omega
theorem foldIns_mem {d : Cl} (l : List Cl) : ∀ out : List Cl, d ∈ l.foldl insC out ↔ d ∈ l ∨ d ∈ out := by
  induction l with
  | nil => intro out; simp
  | cons c l ih =>
    intro out
    rw [List.foldl_cons, ih, insC_mem, List.mem_cons]
    constructor
    · rintro (h | h | h)
      · exact .inl (.inr h)
      · exact .inl (.inl h)
      · exact .inr h
    · rintro ((h | h) | h)
      · exact .inr (.inl h)
      · exact .inl h
      · exact .inr (.inr h)
theorem fitTo_len (l : List Cl) (x y : Int) : (fitTo l x y).length = l.length := by unfold fitTo; rw [foldIns_len]; simp
theorem fitTo_mem {l : List Cl} {x y : Int} {d : Cl} : d ∈ fitTo l x y ↔ ∃ c ∈ l, moveC x y c = d := by unfold fitTo; rw [foldIns_mem]; simp
theorem fitTo_snoc {l : List Cl} {k : Nat} {c : Cl} (x y : Int) (h : l[k]? = some c) : fitTo (l.take (k + 1)) x y = insC (fitTo (l.take k) x y) (moveC x y c) := by
  unfold fitTo; rw [take_snoc_at h]; simp
theorem fitL_len (l : List Cl) : (fitL l).length = l.length := fitTo_len _ _ _
theorem cAtC_eq {l : List Cl} {i : Nat} {c : Cl} (h : l[i]? = some c) : cAtC l i = c := by simp [cAtC, h]
theorem minF_le (f : Cl → Int) : ∀ (l : List Cl) (m : Int), minF f m l ≤ m ∧ ∀ c ∈ l, minF f m l ≤ f c := by
  intro l
  induction l with
  | nil => intro m; exact ⟨Int.le_refl _, by simp⟩
  | cons d l ih =>
    intro m
    have h := ih (min m (f d))
    have e : minF f m (d :: l) = minF f (min m (f d)) l := rfl
    rw [e]
    refine ⟨by omega, fun c hc => ?_⟩
    rcases List.mem_cons.1 hc with rfl | hc
    · omega
    · exact h.2 c hc
/-- All cells lie from -7 to 7. -/
def Near (l : List Cl) : Prop := ∀ d ∈ l, (-7 ≤ d.1 ∧ d.1 ≤ 7) ∧ -7 ≤ d.2 ∧ d.2 ≤ 7
theorem Near.low {l : List Cl} (h : Near l) : (-7 ≤ lowX l ∧ lowX l ≤ 7) ∧ -7 ≤ lowY l ∧ lowY l ≤ 7 := by
  have h0 : (-7 ≤ (l.headD (0, 0)).1 ∧ (l.headD (0, 0)).1 ≤ 7) ∧ -7 ≤ (l.headD (0, 0)).2 ∧ (l.headD (0, 0)).2 ≤ 7 := by
    cases l with
    | nil => simp
    | cons c t => exact h c (by simp)
  exact ⟨minF_rng _ l _ h0.1 (fun c hc => (h c hc).1), minF_rng _ l _ h0.2 (fun c hc => (h c hc).2)⟩
theorem low_le {l : List Cl} {d : Cl} (hd : d ∈ l) : lowX l ≤ d.1 ∧ lowY l ≤ d.2 := ⟨(minF_le _ _ _).2 d hd, (minF_le _ _ _).2 d hd⟩

/-! ### a block of cells, one cell after another -/
theorem flat_set (mem : List Cl) (rest : List Value) (i : Nat) (x y : Int) (hi : i < mem.length) :
    ((mem.flatMap cC ++ rest).set (i * 2) (Value.int .i64 x)).set (i * 2 + 1) (Value.int .i64 y) = (mem.set i (x, y)).flatMap cC ++ rest := by
  induction mem generalizing i with
  | nil => simp at hi
  | cons c mem ih =>
    cases i with
    | zero => rfl
    | succ i =>
      have := ih i (by simpa using hi)
      rw [List.flatMap_cons, List.set_cons_succ, List.flatMap_cons, show (i + 1) * 2 = i * 2 + 1 + 1 by omega]
      show cC c ++ _ = _
      simp only [cC, List.cons_append]
      exact congrArg (fun t => Value.int .i64 c.1 :: Value.int .i64 c.2 :: t) this
theorem Blk.setC {w : World} {g : Nat} {E : TypeId} {mem : List Cl} {rest : List Value} (h : Blk w g E (mem.flatMap cC ++ rest)) {i : Nat} (hi : i < mem.length) (x y : Int) :
    Blk ((w.setCell ⟨g, i * 2, none⟩ (.int .i64 x)).setCell ⟨g, i * 2 + 1, none⟩ (.int .i64 y)) g E ((mem.set i (x, y)).flatMap cC ++ rest) := by
  have := (h.set_ (i * 2) (.int .i64 x)).set_ (i * 2 + 1) (.int .i64 y)
  rwa [flat_set mem rest i x y hi] at this
def segC (mem : List Cl) : Nat → List Cl → List Cl
  | _, [] => mem
  | i, d :: ds => segC (mem.set i d) (i + 1) ds
theorem seg_flat (ds : List Cl) : ∀ (mem : List Cl) (rest : List Value) (i : Nat), i + ds.length ≤ mem.length → setSeg (mem.flatMap cC ++ rest) (i * 2) (ds.flatMap cC) = (segC mem i ds).flatMap cC ++ rest := by
  induction ds with
  | nil => intro mem rest i _; rfl
  | cons d ds ih =>
    intro mem rest i hi
    rw [List.length_cons] at hi
    have e := flat_set mem rest i d.1 d.2 (by omega)
    show setSeg (((mem.flatMap cC ++ rest).set (i * 2) (Value.int .i64 d.1)).set (i * 2 + 1) (Value.int .i64 d.2)) (i * 2 + 1 + 1) (ds.flatMap cC) = _
    rw [e, show i * 2 + 1 + 1 = (i + 1) * 2 by omega, ih _ rest (i + 1) (by rw [List.length_set]; omega)]
    rfl
theorem segC_len (ds : List Cl) : ∀ (mem : List Cl) (i : Nat), (segC mem i ds).length = mem.length := by
  induction ds with
  | nil => intro mem i; rfl
  | cons d ds ih => intro mem i; rw [segC, ih, List.length_set]
theorem segC_get (ds : List Cl) : ∀ (mem : List Cl) (i j : Nat), i + ds.length ≤ mem.length → (segC mem i ds)[j]? = if i ≤ j ∧ j < i + ds.length then ds[j - i]? else mem[j]? := by
  induction ds with
  | nil => intro mem i j _; rw [if_neg (by simp)]; rfl
  | cons d ds ih =>
    intro mem i j hi
    rw [List.length_cons] at hi ⊢
    rw [segC, ih _ _ _ (by rw [List.length_set]; omega), List.getElem?_set]
    by_cases h : i ≤ j ∧ j < i + (ds.length + 1)
    · rw [if_pos h]
      by_cases hj : i = j
      · subst hj
        rw [if_neg (by omega), if_pos rfl, if_pos (by omega), Nat.sub_self]; rfl
      · rw [if_pos (by omega), show j - i = (j - (i + 1)) + 1 by omega, List.getElem?_cons_succ]
    · rw [if_neg h, if_neg (by omega), if_neg (by omega)]
theorem seg_shift (out : List Cl) (z : Cl) {k : Nat} (hk : k < out.length) : segC (out ++ [z]) (k + 1) (out.drop k) = out.take (k + 1) ++ out.drop k := by
  apply List.ext_getElem?
  intro j
  rw [segC_get _ _ _ _ (by rw [List.length_drop, List.length_append]; simp; omega), List.getElem?_append, List.length_drop]
  have e : (out.take (k + 1)).length = k + 1 := by rw [List.length_take]; omega
  rw [List.getElem?_append, e]
  by_cases h1 : j < k + 1
  · rw [if_neg (by omega), if_pos (by omega), if_pos h1, List.getElem?_take, if_pos h1]
  · rw [if_neg h1]
    by_cases h2 : j < k + 1 + (out.length - k)
    · rw [if_pos (by omega)]
    · rw [if_neg (by omega), if_neg (by omega), List.getElem?_eq_none (by simp; omega), List.getElem?_eq_none (by rw [List.length_drop]; omega)]
theorem shift_set (out : List Cl) (c : Cl) {k : Nat} (hk : k < out.length) : (out.take (k + 1) ++ out.drop k).set k c = out.take k ++ c :: out.drop k := by
  have e : out.take (k + 1) = out.take k ++ [out[k]] := List.take_succ_eq_append_getElem hk
  rw [e, List.append_assoc, List.set_append_right _ _ (by rw [List.length_take]; omega), List.length_take, show k - min k out.length = 0 by omega]
  rfl
theorem snoc_set (out : List Cl) (z c : Cl) : (out ++ [z]).set out.length c = out.take out.length ++ c :: out.drop out.length := by
  rw [List.set_append_right _ _ (Nat.le_refl _), Nat.sub_self, List.take_length, List.drop_length]; rfl
/-! ### the law on copy, for elements of more than one cell -/
theorem info_sz : (Try.prog.info? 35).map (·.size) = some 2 := by kernel_rfl
theorem flat_one {l : List Cl} : ∀ v ∈ l.flatMap cC, v.oneCell' = true := by
  intro v hv
  obtain ⟨c, _, hc⟩ := List.mem_flatMap.1 hv
  simp only [cC, List.mem_cons, List.not_mem_nil, or_false] at hc
  rcases hc with rfl | rfl <;> rfl
theorem copy_shift {w : World} {g : Nat} {out : List Cl} {z : Cl} {rest : List Value} (h : Blk w g 35 ((out ++ [z]).flatMap cC ++ rest)) {p dLen sLen od os : Nat} (hp : p < out.length) (ty : TypeId) (dCap sCap : Nat)
    (hd : dLen = out.length - p) (hs : sLen = out.length + 1 - p) (hod : od = (p + 1) * 2) (hos : os = p * 2) :
    (Builtin.copy_ #[28, 28] ty #[.slice (some ⟨g, od, none⟩) dLen dCap, .slice (some ⟨g, os, none⟩) sLen sCap]).run Try.prog w = .ok (goInt (Nat.min sLen dLen)) (w.setCells g od ((out.drop p).flatMap cC)) := by
  subst hd; subst hs; subst hod; subst hos
  have hl : ((out.drop p).flatMap cC).length = (out.length - p) * 2 := by rw [flatMap_len cC 2 (fun _ => rfl), List.length_drop]
  have hml : ((out ++ [z]).flatMap cC).length = (out.length + 1) * 2 := by rw [flatMap_len cC 2 (fun _ => rfl), List.length_append]; rfl
  have hmn : Nat.min (out.length + 1 - p) (out.length - p) = out.length - p := Nat.min_eq_right (by omega)
  refine run_copy_sz (P := Try.prog) w 28 28 ty 35 2 g _ _ _ ⟨g, p * 2, none⟩ _ _ _ Try.underlying28 info_sz ?_ ?_ ?_ ?_ flat_one
  · rw [hl, hmn]
  · intro j v hj
    have hj2 : j < (out.length - p) * 2 := by rw [← hl]; exact (List.getElem?_eq_some_iff.1 hj).1
    rw [Addr.add_lit, h.cell, List.getElem?_append_left (by rw [hml]; omega), List.flatMap_append, List.getElem?_append_left (by rw [flatMap_len cC 2 (fun _ => rfl)]; omega)]
    have e : out.flatMap cC = (out.take p).flatMap cC ++ (out.drop p).flatMap cC := by rw [← List.flatMap_append, List.take_append_drop]
    have e2 : ((out.take p).flatMap cC).length = p * 2 := by rw [flatMap_len cC 2 (fun _ => rfl), List.length_take, Nat.min_eq_left (by omega)]
    rw [e, List.getElem?_append_right (by rw [e2]; omega), e2, show p * 2 + j - p * 2 = j by omega]
    exact hj
  · intro j hj
    rw [hl] at hj
    rw [h.cell, List.getElem?_append_left (by rw [hml]; omega), List.getElem?_eq_getElem (by rw [hml]; omega)]; rfl
  · intro j hj
    exact h.frozen _
set_option maxRecDepth 100000 in
set_option maxHeartbeats 1000000 in
theorem fitted_any (A : Option Addr) (N c : Nat) (l : List Cl) (w : World) (hN : N = l.length) (hl : N ≤ 1048576) (h0 : 0 < N) (hn : Near l) (hr : RdC w A l) :
    Calls Try.prog 153 #[.slice A N c] w fun e w' => ∃ v, e = .returned v ∧ OwC w.heap.size w' v (fitL l) ∧ Below w.heap.size w w' := by
  have HN := Lib.hid hN
  have hr' := Lib.hid hr
  have Hn := Lib.hid hn
  obtain ⟨X, hX⟩ : ∃ X, X = lowX l := ⟨_, rfl⟩
  obtain ⟨Y, hY⟩ : ∃ Y, Y = lowY l := ⟨_, rfl⟩
  have hxy := hn.low
  rw [← hX, ← hY] at hxy
  have hf : fitL l = fitTo l X Y := by rw [fitL, hX, hY]
  rw [hf]
  have HX := Lib.hid hX
  have HY := Lib.hid hY
  have hB := Below.refl w.heap.size w
  clear hN hr hn hX hY hf
  go_enter Try.func153, Try.ntmps153
  go_wp2_with (go_at_call 157; refine (corner_any A N c l _ HN.out hl h0 (hr'.out.below hB)).mono ?_; rintro e wc ⟨rfl, hbn⟩; have hSz := bl_sz (bl_trans hB (by go_grown)) hbn; replace hB := bl_trans (bl_trans hB (by go_grown)) hbn; rw [← HX.out, ← HY.out]; have hcs := hB.size; clear hbn)
  have ho := Lib.hid (OwC.new_ (B := w.heap.size) (w := wc) hcs)
  have hB0 := bl_alloc hB (.cells #[] 35)
  go_loopw [5, 18] (fun v i wr => ∃ k : Nat, k ≤ N ∧ i = .int .i64 k ∧ OwC w.heap.size wr v (fitTo (l.take k) X Y) ∧ Below w.heap.size w wr) (fun _ i _ => N - (intOf i).toNat)
  case atStart => exact ⟨0, by omega, rfl, ho.out, hB0⟩
  case round =>
    obtain ⟨k, hk, rfl, own, hBr⟩ := hrel
    clear ho hB hB0
    by_cases hlt : k < N
    · obtain ⟨b, off, x, y, rfl, hbl, hv, hd, g1, g2, c0, c1⟩ := (hr'.out.below hBr).at_ (k := k) (by have := HN.out; omega)
      have hnr := Hn.out (x, y) (List.mem_of_getElem? hv)
      dsimp only at hnr
      have hsn := Lib.hid (fitTo_snoc X Y hv)
      obtain ⟨out, hout⟩ : ∃ out, out = fitTo (l.take k) X Y := ⟨_, rfl⟩
      rw [← hout] at own hsn
      have hol : out.length ≤ 1048576 := by rw [hout, fitTo_len, List.length_take]; omega
      have hvb := own.2.1.lt
      obtain ⟨⟨A5, c5, rfl⟩, _⟩ := id own
      obtain ⟨m, hm⟩ : ∃ m, m = out.length := ⟨_, rfl⟩
      rw [← hm] at hol own hvb ⊢
      have Hm := Lib.hid hm
      obtain ⟨wo, hwo⟩ : ∃ wo : World, wo = (wr.alloc (.cells #[.int .i64 x, .int .i64 y] 35)).alloc (.cells #[.int .i64 (x - X), .int .i64 (y - Y)] 35) := ⟨_, rfl⟩
      have HO := Lib.hid own
      have Hvb := Lib.hid hvb
      have P := Blk.new wr 35 [.int .i64 x, .int .i64 y]
      have Pc := P.c2
      clear hv hd own hout hvb hm
      go_upto_block 2 with fail
      rw [← hwo]
      have hws : wo.heap.size = wr.heap.size + 1 + 1 := by rw [hwo]; simp
      have Q : Blk wo (wr.heap.size + 1) 35 [.int .i64 (x - X), .int .i64 (y - Y)] := by rw [hwo]; exact Blk.new2 wr _ _ _
      have hBo : Below w.heap.size w wo := by rw [hwo]; exact bl_alloc (bl_alloc hBr _) _
      have HO2 := Lib.hid (HO.out.bel (show Below wr.heap.size wr wo by rw [hwo]; exact bl_alloc (bl_alloc (Below.refl _ _) _) _))
      have Hws := Lib.hid hws
      clear hwo hBr HO P Pc hws
      go_cut [9] from 33 to 69 (fun q wr' => q = .int .i64 (posC out (x - X, y - Y) m) ∧ Below wo.heap.size wo wr')
      case first =>
        go_wp2_with fail
        go_loopw [9] (fun q wr' => ∃ j : Nat, j ≤ m ∧ q = .int .i64 j ∧ Hid (posC out (x - X, y - Y) j = posC out (x - X, y - Y) m) ∧ Below wo.heap.size wo wr') (fun q _ => (intOf q).toNat)
        case atStart => exact ⟨m, Nat.le_refl _, rfl, Lib.hid rfl, Below.refl _ _⟩
        case round =>
          obtain ⟨j, hj, rfl, HP, hB2⟩ := hrel
          rcases Nat.eq_zero_or_pos j with h0 | h0
          · subst h0
            have hd : decide ((0 : Int) < ((0 : Nat) : Int)) = false := by decide
            have HP2 := Lib.hid (show posC out (x - X, y - Y) m = 0 from HP.out.symm)
            go_wp2_with fail
            (refine wp_region_quiet_bel (by kernel_rfl) (by kernel_rfl) ?_; (repeat (first | go_big_quiet_step (fail) | quiet_step (fail))); refine wpQuiet_nil ?_; intro wq hw0; obtain ⟨⟨_, hbq⟩, hw1⟩ := hw0; subst hw1; try dsimp only)
            go_wp2_with fail
            go_meet
            refine ⟨?_, bl_trans hB2 hbq⟩
            rw [HP2.out]
          · obtain ⟨i, rfl⟩ : ∃ i, j = i + 1 := ⟨j - 1, by omega⟩
            have hd : decide ((0 : Int) < ((i + 1 : Nat) : Int)) = true := by simp <;> omega
            obtain ⟨b5, off5, a1, a2, rfl, hbl5, hv5, _, ga, gb, e0, e1⟩ := (HO2.out.rd.below hB2).at_ (k := i) (by have := Hm.out; omega)
            have Q2 := (Q.below hB2 Q.lt).c2
            have q0 := bq_cell e0
            have q1 := bq_cell e1
            have q2 := bq_cell Q2.1
            have q3 := bq_cell Q2.2
            have hca := cAtC_eq hv5
            have hstep : posC out (x - X, y - Y) (i + 1) = if gtC (a1, a2) (x - X, y - Y) then posC out (x - X, y - Y) i else i + 1 := by rw [posC, hca]
            rw [HP.out] at hstep
            have Hst := Lib.hid hstep
            clear hv5 hca hstep e0 e1 Q2 h0
            by_cases y1 : y - Y < a2
            · have d1 : decide (y - Y < a2) = true := decide_eq_true y1
              have HG := Lib.hid (show gtC (a1, a2) (x - X, y - Y) = true by simp [gtC, y1])
              go_wp2_with fail
              (refine wp_region_quiet_bel (by kernel_rfl) (by kernel_rfl) ?_; (repeat (first | go_big_quiet_step (fail) | quiet_step (fail))); refine wpQuiet_nil ?_; intro wq hw0; obtain ⟨⟨_, hbq⟩, hw1⟩ := hw0; subst hw1; try dsimp only)
              go_wp2_with fail
              go_roundw
              case rel => exact ⟨i, by omega, by go_num, Lib.hid (by rw [Hst.out, HG.out]; rfl), bl_trans hB2 hbq⟩
              case measure => simp [intOf]
            · have d1 : decide (y - Y < a2) = false := decide_eq_false y1
              by_cases y2 : a2 = y - Y
              · have d2 : (a2 == y - Y) = true := by simpa using y2
                by_cases x1 : x - X < a1
                · have d3 : decide (x - X < a1) = true := decide_eq_true x1
                  have HG := Lib.hid (show gtC (a1, a2) (x - X, y - Y) = true by simp only [gtC, d1, d2, d3]; rfl)
                  clear y1 y2
                  go_wp2_with fail
                  (refine wp_region_quiet_bel (by kernel_rfl) (by kernel_rfl) ?_; (repeat (first | go_big_quiet_step (fail) | quiet_step (fail))); refine wpQuiet_nil ?_; intro wq hw0; obtain ⟨⟨_, hbq⟩, hw1⟩ := hw0; subst hw1; try dsimp only)
                  go_wp2_with fail
                  go_roundw
                  case rel => exact ⟨i, by omega, by go_num, Lib.hid (by rw [Hst.out, HG.out]; rfl), bl_trans hB2 hbq⟩
                  case measure => simp [intOf]
                · have d3 : decide (x - X < a1) = false := decide_eq_false x1
                  have HG := Lib.hid (show gtC (a1, a2) (x - X, y - Y) = false by simp only [gtC, d1, d2, d3]; rfl)
                  clear y1 y2
                  go_wp2_with fail
                  (refine wp_region_quiet_bel (by kernel_rfl) (by kernel_rfl) ?_; (repeat (first | go_big_quiet_step (fail) | quiet_step (fail))); refine wpQuiet_nil ?_; intro wq hw0; obtain ⟨⟨_, hbq⟩, hw1⟩ := hw0; subst hw1; try dsimp only)
                  go_wp2_with fail
                  go_meet
                  exact ⟨by rw [Hst.out, HG.out]; rfl, bl_trans hB2 hbq⟩
              · have d2 : (a2 == y - Y) = false := by simpa using y2
                have HG := Lib.hid (show gtC (a1, a2) (x - X, y - Y) = false by simp only [gtC, d1, d2]; rfl)
                clear y1 y2
                go_wp2_with fail
                (refine wp_region_quiet_bel (by kernel_rfl) (by kernel_rfl) ?_; (repeat (first | go_big_quiet_step (fail) | quiet_step (fail))); refine wpQuiet_nil ?_; intro wq hw0; obtain ⟨⟨_, hbq⟩, hw1⟩ := hw0; subst hw1; try dsimp only)
                go_wp2_with fail
                go_meet
                exact ⟨by rw [Hst.out, HG.out]; rfl, bl_trans hB2 hbq⟩
      case rest =>
        obtain ⟨rfl, hB2⟩ := hcut
        obtain ⟨p, hp⟩ : ∃ p, p = posC out (x - X, y - Y) m := ⟨_, rfl⟩
        rw [← hp]
        have hpm : p ≤ m := by rw [hp]; exact posC_le _ _ _
        have HP := Lib.hid hp
        clear hp
        obtain ⟨wd, rfl⟩ : ∃ wd : World, wd = wc := ⟨_, rfl⟩
        have HO3 := Lib.hid (HO2.out.bel hB2)
        have Q2 := Q.below hB2 Q.lt
        have hBd := hBo.trans (hB2.mono hBo.size)
        have hsd := Q2.lt
        have hml : out.length ≤ 1048576 := by have := Hm.out; omega
        go_wp2_with (at_builtin; refine wpList_atC rfl (.tmp 70) (.tmp 72) rfl w.heap.size (.slice A5 m c5) out 0 0 rfl rfl HO3.out hBd.size hml ⟨by decide, by decide⟩ ⟨by decide, by decide⟩ ?_; intro v' w1 ho1 hb1 hg1 hat1 hsz1)
        have hB5 := hb1 _ hBd
        obtain ⟨g, cap, rest, rfl, hBg, hcl, hcm, hsz, hblk⟩ := ho1.blk' (by simp)
        have hl1 : (out ++ [((0 : Int), (0 : Int))]).length = m + 1 := by rw [List.length_append, Hm.out]; rfl
        rw [hl1] at hcl ⊢
        have hgq : wr.heap.size + 1 ≠ g := by
          rcases hat1 with h1 | h1
          · exact fun e => by have := (Hvb.out g h1.symm).2; omega
          · have h1' : g = wd.heap.size + 1 := by simpa [Value.ownBlock] using h1
            omega
        have Q3 : Blk w1 (wr.heap.size + 1) 35 [.int .i64 (x - X), .int .i64 (y - Y)] := (hg1.block _ hsd (fun e => by
          have := (Hvb.out (wr.heap.size + 1) e.symm).2; omega)).trans Q2
        have hsn2 : fitTo (l.take (k + 1)) X Y = out.take p ++ (x - X, y - Y) :: out.drop p := by rw [hsn.out, HP.out, Hm.out]; rfl
        have Hsn2 := Lib.hid hsn2
        have Hb5 := Lib.hid hB5
        have Hblk := Lib.hid hblk
        have Hsz := Lib.hid hsz
        have Hgq := Lib.hid hgq
        have Hog := Lib.hid ho1.2.2
        have hgw := hblk.lt
        have Q3c := Q3.c2
        clear hsn2 hB5 hblk hsz hgq ho1 hb1 hg1 hat1 hsn HO2 HO3 Hvb Q Q2 hB2 hBo hBd Hws hl1
        have hw1 : IntKind.i64.wrap ((p : Int) + 1) = (p : Int) + 1 := IntWalk.i64_in _ (by omega)
        by_cases hpm2 : p < m
        · have hc1 : ¬ cap = p + 1 := by omega
          have hc2 : ¬ cap = p := by omega
          have hpo : p < out.length := by have := Hm.out; omega
          have hseg : Blk (w1.drew.setCells g ((p + 1) * 2) ((out.drop p).flatMap cC)) g 35 ((out.take (p + 1) ++ out.drop p).flatMap cC ++ rest) := by
            have := Hblk.out.drew.seg ((out.drop p).flatMap cC) ((p + 1) * 2)
            rw [seg_flat _ _ _ _ (by rw [List.length_drop, List.length_append]; simp; omega), seg_shift out (0, 0) hpo] at this
            exact this
          have Q4 : Blk (w1.drew.setCells g ((p + 1) * 2) ((out.drop p).flatMap cC)) (wr.heap.size + 1) 35 [.int .i64 (x - X), .int .i64 (y - Y)] := (setCells_far _ _ _ _ Hgq.out).trans Q3
          have Q4c := Q4.c2
          have hB6 : Below w.heap.size w (w1.drew.setCells g ((p + 1) * 2) ((out.drop p).flatMap cC)) := bl_setCells (bl_drew Hb5.out) hBg _ _
          have hfin := hseg.setC (i := p) (by rw [List.length_append, List.length_take, List.length_drop]; omega) (x - X) (y - Y)
          rw [shift_set out (x - X, y - Y) hpo] at hfin
          have hlen2 : (out.take p ++ (x - X, y - Y) :: out.drop p).length = m + 1 := by rw [List.length_append, List.length_cons, List.length_take, List.length_drop]; have := Hm.out; omega
          have hI : ∀ c ∈ out.take p ++ (x - X, y - Y) :: out.drop p, I64 c.1 ∧ I64 c.2 := fun c hc => by
            rcases List.mem_append.1 hc with hc | hc
            · exact Hog.out c (List.mem_append_left _ (List.mem_of_mem_take hc))
            · rcases List.mem_cons.1 hc with rfl | hc
              · exact ⟨⟨by dsimp only; omega, by dsimp only; omega⟩, ⟨by dsimp only; omega, by dsimp only; omega⟩⟩
              · exact Hog.out c (List.mem_append_left _ (List.mem_of_mem_drop hc))
          have hsz2 : ((out.take p ++ (x - X, y - Y) :: out.drop p).flatMap cC ++ rest).length = cap * 2 := by
            have h1 := Hsz.out
            rw [List.length_append, flatMap_len cC 2 (fun _ => rfl)] at h1 ⊢
            rw [hlen2]
            rw [show (out ++ [((0 : Int), (0 : Int))]).length = m + 1 by rw [List.length_append, ← Hm.out]; rfl] at h1
            exact h1
          have hown := Blk.ownC' hfin hBg (by rw [hlen2]; exact hcl) hcm hsz2 hI
          rw [hlen2] at hown
          have Hown := Lib.hid hown
          have hlt2 : p * 2 + 1 < ((out.take (p + 1) ++ out.drop p).flatMap cC ++ rest).length := by rw [List.length_append, flatMap_len cC 2 (fun _ => rfl)]; simp; omega
          obtain ⟨u0, hu0⟩ : ∃ u, (w1.drew.setCells g ((p + 1) * 2) ((out.drop p).flatMap cC)).cell? ⟨g, p * 2, none⟩ = some u := ⟨_, (hseg.cell _).trans (List.getElem?_eq_getElem (by omega))⟩
          obtain ⟨u1, hu1⟩ : ∃ u, (w1.drew.setCells g ((p + 1) * 2) ((out.drop p).flatMap cC)).cell? ⟨g, p * 2 + 1, none⟩ = some u := ⟨_, (hseg.cell _).trans (List.getElem?_eq_getElem hlt2)⟩
          have f0 := hseg.frozen (p * 2)
          have f1 := hseg.frozen (p * 2 + 1)
          have HB7 := Lib.hid (bl_set (bl_set hB6 (p := ⟨g, p * 2, none⟩) hBg (.int .i64 (x - X))) (p := ⟨g, p * 2 + 1, none⟩) hBg (.int .i64 (y - Y)))
          clear hseg Q4 hB6 hfin hlen2 hI hsz2 hown hlt2 Q3 Q3c
          have ht1 : ((p : Int) + 1).toNat = p + 1 := by omega
          have ht2 : (0 : Int) ≤ (p : Int) + 1 := by omega
          have ht3 : p + 1 ≤ m + 1 := by omega
          have ht4 : p ≤ m + 1 := by omega
          have ht5 : (p : Int) + 1 ≤ (m : Int) + 1 := by omega
          have ht6 : (p : Int) ≤ (m : Int) + 1 := by omega
          go_region_held3 (fun _ => True) (trivial)
            (first | (refine step_copy_ (by rfl) (.tmp 77) (.tmp 80) 28 (by rfl) (by rfl) (by rfl) (copy_shift (z := (0, 0)) Hblk.out.drew hpo _ _ _ (by have := Hm.out; omega) (by have := Hm.out; omega) (by omega) (by omega)) ?_; skip))
          all_goals (go_wp2_with fail; go_roundw; (case rel => exact ⟨k + 1, by omega, by go_num, by rw [Hsn2.out]; exact Hown.out, HB7.out⟩); (case measure => simp [intOf]; omega))
        · have hpm3 : p = m := by omega
          have hpo : out.length = p := by have := Hm.out; omega
          have hseg : Blk w1.drew g 35 ((out ++ [((0 : Int), (0 : Int))]).flatMap cC ++ rest) := Hblk.out.drew
          have Q4c := Q3.c2
          have hB6 : Below w.heap.size w w1.drew := bl_drew Hb5.out
          have hfin := hseg.setC (i := p) (by rw [List.length_append]; simp; omega) (x - X) (y - Y)
          have hss := snoc_set out (0, 0) (x - X, y - Y)
          rw [hpo] at hss
          rw [hss] at hfin
          have hlen2 : (out.take p ++ (x - X, y - Y) :: out.drop p).length = m + 1 := by rw [List.length_append, List.length_cons, List.length_take, List.length_drop]; have := Hm.out; omega
          have hI : ∀ c ∈ out.take p ++ (x - X, y - Y) :: out.drop p, I64 c.1 ∧ I64 c.2 := fun c hc => by
            rcases List.mem_append.1 hc with hc | hc
            · exact Hog.out c (List.mem_append_left _ (List.mem_of_mem_take hc))
            · rcases List.mem_cons.1 hc with rfl | hc
              · exact ⟨⟨by dsimp only; omega, by dsimp only; omega⟩, ⟨by dsimp only; omega, by dsimp only; omega⟩⟩
              · exact Hog.out c (List.mem_append_left _ (List.mem_of_mem_drop hc))
          have hsz2 : ((out.take p ++ (x - X, y - Y) :: out.drop p).flatMap cC ++ rest).length = cap * 2 := by
            have h1 := Hsz.out
            rw [List.length_append, flatMap_len cC 2 (fun _ => rfl)] at h1 ⊢
            rw [hlen2]
            rw [show (out ++ [((0 : Int), (0 : Int))]).length = m + 1 by rw [List.length_append, ← Hm.out]; rfl] at h1
            exact h1
          have hown := Blk.ownC' hfin hBg (by rw [hlen2]; exact hcl) hcm hsz2 hI
          rw [hlen2] at hown
          have Hown := Lib.hid hown
          have hlt2 : p * 2 + 1 < ((out ++ [((0 : Int), (0 : Int))]).flatMap cC ++ rest).length := by rw [List.length_append, flatMap_len cC 2 (fun _ => rfl)]; simp; omega
          obtain ⟨u0, hu0⟩ : ∃ u, w1.cell? ⟨g, p * 2, none⟩ = some u := ⟨_, (Hblk.out.cell _).trans (List.getElem?_eq_getElem (by omega))⟩
          obtain ⟨u1, hu1⟩ : ∃ u, w1.cell? ⟨g, p * 2 + 1, none⟩ = some u := ⟨_, (Hblk.out.cell _).trans (List.getElem?_eq_getElem hlt2)⟩
          have f0 := Hblk.out.frozen (p * 2)
          have f1 := Hblk.out.frozen (p * 2 + 1)
          have HB7 := Lib.hid (bl_set (bl_set hB6 (p := ⟨g, p * 2, none⟩) hBg (.int .i64 (x - X))) (p := ⟨g, p * 2 + 1, none⟩) hBg (.int .i64 (y - Y)))
          clear hseg hB6 hfin hlen2 hI hsz2 hown hlt2 Q3 Q3c hss
          have HPM := Lib.hid hpm3
          clear hpm3 hpo
          by_cases hc1 : cap = p + 1
          · subst hc1
            have hc2 : ¬ p + 1 = p := by omega
            have ht1 : ((p : Int) + 1).toNat = p + 1 := by omega
            have ht2 : (0 : Int) ≤ (p : Int) + 1 := by omega
            have ht3 : p + 1 ≤ m + 1 := by omega
            have ht4 : p ≤ m + 1 := by omega
            have ht5 : (p : Int) + 1 ≤ (m : Int) + 1 := by omega
            have ht6 : (p : Int) ≤ (m : Int) + 1 := by omega
            go_region_held3 (fun _ => True) (trivial)
              (first | (refine step_copy_ (by rfl) (.tmp 77) (.tmp 80) 28 (by rfl) (by rfl) (by rfl) (run_copy_zero (P := Try.prog) _ 28 28 _ 35 2 _ _ _ _ _ _ Try.underlying28 info_sz (Nat.le_antisymm (Nat.le_trans (Nat.min_le_right _ _) (by have := HPM.out; omega)) (Nat.zero_le _))) ?_; skip))
            all_goals (go_wp2_with fail; go_roundw; (case rel => exact ⟨k + 1, by omega, by go_num, by rw [Hsn2.out]; exact Hown.out, HB7.out⟩); (case measure => simp [intOf]; omega))
          · have hc2 : ¬ cap = p := by have := HPM.out; omega
            have ht1 : ((p : Int) + 1).toNat = p + 1 := by omega
            have ht2 : (0 : Int) ≤ (p : Int) + 1 := by omega
            have ht3 : p + 1 ≤ m + 1 := by omega
            have ht4 : p ≤ m + 1 := by omega
            have ht5 : (p : Int) + 1 ≤ (m : Int) + 1 := by omega
            have ht6 : (p : Int) ≤ (m : Int) + 1 := by omega
            go_region_held3 (fun _ => True) (trivial)
              (first | (refine step_copy_ (by rfl) (.tmp 77) (.tmp 80) 28 (by rfl) (by rfl) (by rfl) (run_copy_zero (P := Try.prog) _ 28 28 _ 35 2 _ _ _ _ _ _ Try.underlying28 info_sz (Nat.le_antisymm (Nat.le_trans (Nat.min_le_right _ _) (by have := HPM.out; omega)) (Nat.zero_le _))) ?_; skip))
            all_goals (go_wp2_with fail; go_roundw; (case rel => exact ⟨k + 1, by omega, by go_num, by rw [Hsn2.out]; exact Hown.out, HB7.out⟩); (case measure => simp [intOf]; omega))
    · have htk : l.take k = l := List.take_of_length_le (by have := HN.out; omega)
      rw [htk] at own
      have HO := Lib.hid own
      clear own htk
      go_wp2_with fail
      go_ret
      exact ⟨_, rfl, HO.out, hBr⟩
theorem mem_at {out : List Cl} {i : Nat} {a : Cl} (h : out[i]? = some a) (s : Cl) : (out.take (i + 1) ++ s :: out.drop (i + 1))[i]? = some a := by
  have hi := (List.getElem?_eq_some_iff.1 h).1
  rw [List.getElem?_append_left (by rw [List.length_take]; omega), List.getElem?_take, if_pos (by omega), h]
theorem flat_at {w : World} {g : Nat} {E : TypeId} {mem : List Cl} {rest : List Value} (h : Blk w g E (mem.flatMap cC ++ rest)) {i : Nat} {a : Cl} (ha : mem[i]? = some a) :
    w.cell? ⟨g, i * 2, none⟩ = some (.int .i64 a.1) ∧ w.cell? ⟨g, i * 2 + 1, none⟩ = some (.int .i64 a.2) := by
  have hi := (List.getElem?_eq_some_iff.1 ha).1
  have hl := flatMap_len cC 2 (fun _ => rfl) mem
  have hg := flatMap_get cC 2 (fun _ => rfl) mem i
  constructor
  · rw [h.cell, List.getElem?_append_left (by omega)]
    have := hg 0 a ha (by omega); simpa [cC] using this
  · rw [h.cell, List.getElem?_append_left (by omega)]
    have := hg 1 a ha (by omega); simpa [cC] using this
theorem shift_one {out : List Cl} {i : Nat} {a : Cl} (h : out[i]? = some a) (s : Cl) : (out.take (i + 1) ++ s :: out.drop (i + 1)).set (i + 1) a = out.take i ++ a :: out.drop i := by
  have hi := (List.getElem?_eq_some_iff.1 h).1
  have e : out.take (i + 1) = out.take i ++ [a] := take_snoc_at h
  have e2 : (out.take i ++ [a]).length = i + 1 := by rw [← e, List.length_take]; omega
  rw [drop_at h, e, List.set_append_right _ _ (by omega), e2, Nat.sub_self, List.append_assoc]; rfl
theorem ins_set (out : List Cl) (s c : Cl) {p : Nat} (hp : p ≤ out.length) : (out.take p ++ s :: out.drop p).set p c = out.take p ++ c :: out.drop p := by
  rw [List.set_append_right _ _ (by rw [List.length_take]; omega), List.length_take, show p - min p out.length = 0 by omega]; rfl
theorem gt_key {a b : Cl} (h1 : 0 ≤ a.1) (h2 : a.1 ≤ 7) (h3 : 0 ≤ b.1) (h4 : b.1 ≤ 7) : gtC a b = decide (b.2 * 8 + b.1 < a.2 * 8 + a.1) := by
  unfold gtC
  rw [Bool.eq_iff_iff]
  simp only [Bool.or_eq_true, Bool.and_eq_true, decide_eq_true_eq, beq_iff_eq]
  omega
set_option maxRecDepth 100000 in
set_option maxHeartbeats 1000000 in
theorem l29Fit_any (A : Option Addr) (N c : Nat) (l : List Cl) (w : World) (hN : N = l.length) (hl : N ≤ 1048576) (h0 : 0 < N) (hn : Near l) (h7 : ∀ d ∈ l, d.1 - lowX l ≤ 7) (hr : RdC w A l) :
    Calls Try.prog 177 #[.slice A N c] w fun e w' => ∃ v, e = .returned v ∧ OwC w.heap.size w' v (fitL l) ∧ Below w.heap.size w w' := by
  have HN := Lib.hid hN
  have hr' := Lib.hid hr
  have Hn := Lib.hid hn
  have H7 := Lib.hid h7
  obtain ⟨b, off, x0, y0, rfl, hbl, hv0, _, g1, g2, c0, c1⟩ := hr'.out.at_ (k := 0) (by have := HN.out; omega)
  have hh : l.headD (0, 0) = (x0, y0) := headD_at hv0
  have HX0 := Lib.hid (show minF Prod.fst x0 l = lowX l by rw [lowX, hh])
  have HY0 := Lib.hid (show minF Prod.snd y0 l = lowY l by rw [lowY, hh])
  simp only [Nat.zero_mul, Nat.add_zero] at c0 c1
  have P0 := Blk.new w 35 [.int .i64 x0, .int .i64 y0]
  clear hN hr hn h7 hv0 hh
  go_enter Try.func177, Try.ntmps177
  go_wp2_with fail
  go_loopw [4] (fun q wr => ∃ k : Nat, k ≤ N ∧ q = .int .i64 k ∧ Blk wr w.heap.size 35 [.int .i64 (minF Prod.fst x0 (l.take k)), .int .i64 (minF Prod.snd y0 (l.take k))] ∧ Below w.heap.size w wr) (fun q _ => N - (intOf q).toNat)
  case atStart => exact ⟨0, by omega, rfl, P0, by go_grown⟩
  case round =>
    obtain ⟨k, hk, rfl, P, hB⟩ := hrel
    clear P0 c0 c1
    have Pc := P.c2
    by_cases hlt : k < N
    · obtain ⟨b', off', x, y, hA, _, hv, hd, _, _, c0, c1⟩ := hr'.out.at_ (k := k) (by have := HN.out; omega)
      injection hA with hA
      injection hA with hA hA'
      subst hA
      subst hA'
      have hs1 := Lib.hid (minF_snoc Prod.fst x0 hv)
      have hs2 := Lib.hid (minF_snoc Prod.snd y0 hv)
      have f0 := (bcell hB).1 b (off + k * 2) hbl
      have f1 := (bcell hB).1 b (off + k * 2 + 1) hbl
      rw [c0] at f0
      rw [c1] at f1
      clear hv hd
      by_cases hx1 : x < minF Prod.fst x0 (l.take k)
      · have Hx1 := Lib.hid hx1
        by_cases hy1 : y < minF Prod.snd y0 (l.take k)
        · have Hy1 := Lib.hid hy1
          have P3 := P.set_ 0 (.int .i64 x)
          have hb3 := bl_set hB (p := ⟨w.heap.size, 0, none⟩) (Nat.le_refl _) (.int .i64 x)
          have P3c := P3.c2
          have z0 := P.frozen 0
          have z1 := P3.frozen 1
          have f2 := (bcell hb3).1 b (off + k * 2 + 1) hbl
          rw [c1] at f2
          have HP4 := Lib.hid (P3.set_ 1 (.int .i64 y))
          have Hb4 := Lib.hid (bl_set hb3 (p := ⟨w.heap.size, 1, none⟩) (Nat.le_refl _) (.int .i64 y))
          clear P P3 hb3 hB
          go_wp2_with fail
          go_region
          go_wp2_with fail
          go_region
          go_wp2_with fail
          go_roundw
          case rel => exact ⟨k + 1, by omega, by go_num, by rw [hs1.out, hs2.out, if_pos Hx1.out, if_pos Hy1.out]; exact HP4.out, bl_drew (bl_drew Hb4.out)⟩
          case measure => simp [intOf]; omega
        · have Hy1 := Lib.hid hy1
          have P3 := P.set_ 0 (.int .i64 x)
          have hb3 := bl_set hB (p := ⟨w.heap.size, 0, none⟩) (Nat.le_refl _) (.int .i64 x)
          have P3c := P3.c2
          have z0 := P.frozen 0
          have z1 := P3.frozen 1
          have f2 := (bcell hb3).1 b (off + k * 2 + 1) hbl
          rw [c1] at f2
          have HP4 := Lib.hid (P3.set_ 1 (.int .i64 (minF Prod.snd y0 (l.take k))))
          have Hb4 := Lib.hid (bl_set hb3 (p := ⟨w.heap.size, 1, none⟩) (Nat.le_refl _) (.int .i64 (minF Prod.snd y0 (l.take k))))
          clear P P3 hb3 hB
          go_wp2_with fail
          go_region
          go_wp2_with fail
          go_region
          go_wp2_with fail
          go_roundw
          case rel => exact ⟨k + 1, by omega, by go_num, by rw [hs1.out, hs2.out, if_pos Hx1.out, if_neg (Int.not_lt.2 Hy1.out)]; exact HP4.out, bl_drew (bl_drew Hb4.out)⟩
          case measure => simp [intOf]; omega
      · have Hx1 := Lib.hid hx1
        by_cases hy1 : y < minF Prod.snd y0 (l.take k)
        · have Hy1 := Lib.hid hy1
          have P3 := P.set_ 0 (.int .i64 (minF Prod.fst x0 (l.take k)))
          have hb3 := bl_set hB (p := ⟨w.heap.size, 0, none⟩) (Nat.le_refl _) (.int .i64 (minF Prod.fst x0 (l.take k)))
          have P3c := P3.c2
          have z0 := P.frozen 0
          have z1 := P3.frozen 1
          have f2 := (bcell hb3).1 b (off + k * 2 + 1) hbl
          rw [c1] at f2
          have HP4 := Lib.hid (P3.set_ 1 (.int .i64 y))
          have Hb4 := Lib.hid (bl_set hb3 (p := ⟨w.heap.size, 1, none⟩) (Nat.le_refl _) (.int .i64 y))
          clear P P3 hb3 hB
          go_wp2_with fail
          go_region
          go_wp2_with fail
          go_region
          go_wp2_with fail
          go_roundw
          case rel => exact ⟨k + 1, by omega, by go_num, by rw [hs1.out, hs2.out, if_neg (Int.not_lt.2 Hx1.out), if_pos Hy1.out]; exact HP4.out, bl_drew (bl_drew Hb4.out)⟩
          case measure => simp [intOf]; omega
        · have Hy1 := Lib.hid hy1
          have P3 := P.set_ 0 (.int .i64 (minF Prod.fst x0 (l.take k)))
          have hb3 := bl_set hB (p := ⟨w.heap.size, 0, none⟩) (Nat.le_refl _) (.int .i64 (minF Prod.fst x0 (l.take k)))
          have P3c := P3.c2
          have z0 := P.frozen 0
          have z1 := P3.frozen 1
          have f2 := (bcell hb3).1 b (off + k * 2 + 1) hbl
          rw [c1] at f2
          have HP4 := Lib.hid (P3.set_ 1 (.int .i64 (minF Prod.snd y0 (l.take k))))
          have Hb4 := Lib.hid (bl_set hb3 (p := ⟨w.heap.size, 1, none⟩) (Nat.le_refl _) (.int .i64 (minF Prod.snd y0 (l.take k))))
          clear P P3 hb3 hB
          go_wp2_with fail
          go_region
          go_wp2_with fail
          go_region
          go_wp2_with fail
          go_roundw
          case rel => exact ⟨k + 1, by omega, by go_num, by rw [hs1.out, hs2.out, if_neg (Int.not_lt.2 Hx1.out), if_neg (Int.not_lt.2 Hy1.out)]; exact HP4.out, bl_drew (bl_drew Hb4.out)⟩
          case measure => simp [intOf]; omega
    · have htk : l.take k = l := List.take_of_length_le (by have := HN.out; omega)
      rw [htk, HX0.out, HY0.out] at P
      obtain ⟨X, hX⟩ : ∃ X, X = lowX l := ⟨_, rfl⟩
      obtain ⟨Y, hY⟩ : ∃ Y, Y = lowY l := ⟨_, rfl⟩
      have hxy := Hn.out.low
      rw [← hX, ← hY] at hxy P
      have HFT := Lib.hid (show fitTo l X Y = fitL l by rw [fitL, hX, hY])
      have HX := Lib.hid hX
      have HY := Lib.hid hY
      have hZ := P.lt
      have ho := Lib.hid (OwC.new_ (B := w.heap.size + 1) (w := wr) hZ)
      have hB0 := bl_alloc hB (.cells #[] 35)
      have P1 := P.alloc (.cells #[] 35)
      clear htk Pc hX hY P hB HX0 HY0
      go_wp2_with fail
      go_loopw [5, 6] (fun v i wr => ∃ k : Nat, k ≤ N ∧ i = .int .i64 k ∧ OwC (w.heap.size + 1) wr v (fitTo (l.take k) X Y) ∧ Blk wr w.heap.size 35 [.int .i64 X, .int .i64 Y] ∧ Below w.heap.size w wr) (fun _ i _ => N - (intOf i).toNat)
      case atStart => exact ⟨0, by omega, rfl, ho.out, P1, hB0⟩
      case round =>
        obtain ⟨k, hk, rfl, own, P, hB⟩ := hrel
        clear ho P1 hB0 hZ
        have Pc := P.c2
        by_cases hlt : k < N
        · obtain ⟨b', off', x, y, hA, _, hv, hd, _, _, c0, c1⟩ := hr'.out.at_ (k := k) (by have := HN.out; omega)
          injection hA with hA
          injection hA with hA hA'
          subst hA
          subst hA'
          have hnr := Hn.out (x, y) (List.mem_of_getElem? hv)
          have h7 := H7.out (x, y) (List.mem_of_getElem? hv)
          have hlo := low_le (List.mem_of_getElem? hv)
          rw [← HX.out] at h7 hlo
          rw [← HY.out] at hlo
          dsimp only at hnr h7 hlo
          have f0 := (bcell hB).1 b (off + k * 2) hbl
          have f1 := (bcell hB).1 b (off + k * 2 + 1) hbl
          rw [c0] at f0
          rw [c1] at f1
          have hsn := Lib.hid (fitTo_snoc X Y hv)
          obtain ⟨out, hout⟩ : ∃ out, out = fitTo (l.take k) X Y := ⟨_, rfl⟩
          rw [← hout] at own hsn
          have hrange : ∀ d ∈ out, (0 ≤ d.1 ∧ d.1 ≤ 7) ∧ 0 ≤ d.2 ∧ d.2 ≤ 14 := fun d hd => by
            rw [hout] at hd
            obtain ⟨e, he, rfl⟩ := fitTo_mem.1 hd
            have he := List.mem_of_mem_take he
            have q1 := Hn.out e he
            have q2 := H7.out e he
            have q3 := low_le he
            rw [← HX.out] at q2 q3
            rw [← HY.out] at q3
            unfold moveC; dsimp only; omega
          have Hrg := Lib.hid hrange
          have hol : out.length ≤ 1048576 := by rw [hout, fitTo_len, List.length_take]; omega
          have hvb := own.2.1.lt
          obtain ⟨⟨A5, c5, rfl⟩, _⟩ := id own
          obtain ⟨m, hm⟩ : ∃ m, m = out.length := ⟨_, rfl⟩
          rw [← hm] at own hvb ⊢
          have hmb : m ≤ 1048576 := by rw [hm]; exact hol
          have Hm := Lib.hid hm
          have HO := Lib.hid own
          have Hvb := Lib.hid hvb
          have hw1 : IntKind.i64.wrap (x - X) = x - X := IntWalk.i64_in _ (by omega)
          have hw2 : IntKind.i64.wrap (y - Y) = y - Y := IntWalk.i64_in _ (by omega)
          clear hv hd own hout hvb hm hrange
          go_wp2_with fail
          go_region_held3 (fun w' => w'.cell? ⟨w.heap.size, 0, none⟩ = some (.int .i64 X) ∧ w'.cell? ⟨w.heap.size, 1, none⟩ = some (.int .i64 Y) ∧ w'.cell? ⟨b, off + k * 2, none⟩ = some (.int .i64 x) ∧ w'.cell? ⟨b, off + k * 2 + 1, none⟩ = some (.int .i64 y)) (go_keep) (first | fail)
          have HO1 := Lib.hid (HO.out.bel (bl_drew (bl_alloc (Below.refl _ _) (.cells #[.int .i64 (x - X), .int .i64 (y - Y)] 35))))
          have Q := (Blk.new wr 35 [.int .i64 (x - X), .int .i64 (y - Y)]).drew
          have Qc := Q.c2
          have P2 := (P.alloc (.cells #[.int .i64 (x - X), .int .i64 (y - Y)] 35)).drew
          have hB2 := bl_drew (bl_alloc hB (.cells #[.int .i64 (x - X), .int .i64 (y - Y)] 35))
          have hg1 : I64 (x - X) := ⟨by omega, by omega⟩
          have hg2 : I64 (y - Y) := ⟨by omega, by omega⟩
          have hZ1 : w.heap.size + 1 ≤ (wr.alloc (.cells #[.int .i64 (x - X), .int .i64 (y - Y)] 35)).drew.heap.size := P2.lt
          clear P hB Pc HO
          obtain ⟨wo, rfl⟩ : ∃ wo : World, wo = wr := ⟨_, rfl⟩
          have hws : (wo.alloc (.cells #[.int .i64 (x - X), .int .i64 (y - Y)] 35)).drew.heap.size = wo.heap.size + 1 := World.size_alloc _ _
          obtain ⟨W1, hW1⟩ : ∃ W1 : World, W1 = (wo.alloc (.cells #[.int .i64 (x - X), .int .i64 (y - Y)] 35)).drew := ⟨_, rfl⟩
          rw [← hW1] at HO1 Q Qc P2 hB2 hZ1 hws ⊢
          have Hws := Lib.hid hws
          clear hW1 hws
          go_upto_block 4 with (at_builtin; refine wpList_atC rfl (.tmp 62) (.tmp 64) rfl (w.heap.size + 1) (.slice A5 m c5) out (x - X) (y - Y) rfl rfl HO1.out hZ1 hol hg1 hg2 ?_; intro v' w1 ho1 hb1 hgr1 hat1 hsz1)
          obtain ⟨g, cap, rest, rfl, hBg, hcl, hcm, hsz, hblk⟩ := ho1.blk' (by simp)
          have hl1 : (out ++ [(x - X, y - Y)]).length = m + 1 := by rw [List.length_append, Hm.out]; rfl
          rw [hl1] at hcl ⊢
          have hws := Hws.out
          have hgq : wo.heap.size ≠ g := by
            rcases hat1 with h1 | h1
            · exact fun e => by have := (Hvb.out g h1.symm).2; omega
            · have h1' : g = W1.heap.size + 1 := by simpa only [Value.ownBlock, Option.some.injEq] using h1
              omega
          have Q3 : Blk w1 wo.heap.size 35 [.int .i64 (x - X), .int .i64 (y - Y)] := (hgr1.block _ Q.lt (fun e => by
            have := (Hvb.out wo.heap.size e.symm).2; omega)).trans Q
          have P3 := P2.below (hb1 _ (Below.refl _ _)) (by omega)
          have hB3 := hB2.trans ((hb1 _ (Below.refl _ _)).mono (by omega))
          have hsn2 : fitTo (l.take (k + 1)) X Y = out.take (posC out (x - X, y - Y) m) ++ (x - X, y - Y) :: out.drop (posC out (x - X, y - Y) m) := by rw [hsn.out, Hm.out]; rfl
          have Hsn2 := Lib.hid hsn2
          have Hsz := Lib.hid hsz
          have Hog := Lib.hid ho1.2.2
          have Hgq := Lib.hid hgq
          have HQ := Lib.hid Q3
          have HP := Lib.hid P3
          have HB := Lib.hid hB3
          have Hblk := Lib.hid (show Blk w1 g 35 ((out.take m ++ (x - X, y - Y) :: out.drop m).flatMap cC ++ rest) by
            rw [Hm.out, List.take_length, List.drop_length]; exact hblk)
          clear hsn2 hsz hblk ho1 hgq Q3 P3 hB3 hb1 hgr1 hat1 hws hl1 Q Qc P2 hB2 HO1 hsn Hvb hZ1
          go_cut [8] from 66 to 100 (fun q wr' => ∃ s : Cl, q = .int .i64 (posC out (x - X, y - Y) m) ∧ Hid (Blk wr' g 35 ((out.take (posC out (x - X, y - Y) m) ++ s :: out.drop (posC out (x - X, y - Y) m)).flatMap cC ++ rest)) ∧ Hid (Blk wr' wo.heap.size 35 [.int .i64 (x - X), .int .i64 (y - Y)]) ∧ Hid (Blk wr' w.heap.size 35 [.int .i64 X, .int .i64 Y]) ∧ Hid (Below w.heap.size w wr'))
          case first =>
            go_wp2_with fail
            go_loopw [8] (fun q wr' => ∃ j : Nat, ∃ s : Cl, j ≤ m ∧ q = .int .i64 j ∧ Hid (posC out (x - X, y - Y) j = posC out (x - X, y - Y) m) ∧ Hid (Blk wr' g 35 ((out.take j ++ s :: out.drop j).flatMap cC ++ rest)) ∧ Hid (Blk wr' wo.heap.size 35 [.int .i64 (x - X), .int .i64 (y - Y)]) ∧ Hid (Blk wr' w.heap.size 35 [.int .i64 X, .int .i64 Y]) ∧ Hid (Below w.heap.size w wr')) (fun q _ => (intOf q).toNat)
            case atStart => exact ⟨m, (x - X, y - Y), Nat.le_refl _, rfl, Lib.hid rfl, Hblk, HQ, HP, HB⟩
            case round =>
              obtain ⟨j, s, hj, rfl, HJ, HG, HQ2, HP2, HB2⟩ := hrel
              clear Hblk HQ HP HB
              rcases Nat.eq_zero_or_pos j with h0 | h0
              · subst h0
                have hd : decide ((0 : Int) < ((0 : Nat) : Int)) = false := by decide
                have HJ2 := Lib.hid (show posC out (x - X, y - Y) m = 0 from HJ.out.symm)
                go_wp2_with fail
                (refine wp_region_quiet_bel (by kernel_rfl) (by kernel_rfl) ?_; (repeat (first | go_big_quiet_step (fail) | quiet_step (fail))); refine wpQuiet_nil ?_; intro wq hw0; obtain ⟨⟨_, hbq⟩, hw1⟩ := hw0; subst hw1; try dsimp only)
                go_wp2_with fail
                go_meet
                refine ⟨s, ?_, ?_, Lib.hid (HQ2.out.bel hbq), Lib.hid (HP2.out.bel hbq), Lib.hid (bl_trans HB2.out hbq)⟩
                · rw [HJ2.out]
                · rw [HJ2.out]; exact Lib.hid (HG.out.bel hbq)
              · obtain ⟨i, rfl⟩ : ∃ i, j = i + 1 := ⟨j - 1, by omega⟩
                have hd : decide ((0 : Int) < ((i + 1 : Nat) : Int)) = true := by simp <;> omega
                obtain ⟨⟨a1, a2⟩, hv5⟩ : ∃ a, out[i]? = some a := ⟨_, List.getElem?_eq_getElem (by have := Hm.out; omega)⟩
                have hra := Hrg.out _ (List.mem_of_getElem? hv5)
                dsimp only at hra
                have hmi := mem_at hv5 s
                have e0 := flat_at HG.out hmi
                dsimp only at e0
                have q0 := bq_cell e0.1
                have q1 := bq_cell e0.2
                have q2 := bq_cell HQ2.out.c2.1
                have q3 := bq_cell HQ2.out.c2.2
                have hca := cAtC_eq hv5
                have hstep : posC out (x - X, y - Y) (i + 1) = if gtC (a1, a2) (x - X, y - Y) then posC out (x - X, y - Y) i else i + 1 := by rw [posC, hca]
                rw [HJ.out] at hstep
                have Hst := Lib.hid hstep
                have hgt : gtC (a1, a2) (x - X, y - Y) = decide ((y - Y) * 8 + (x - X) < a2 * 8 + a1) := gt_key (by dsimp only; omega) (by dsimp only; omega) (by dsimp only; omega) (by dsimp only; omega)
                have Hgt := Lib.hid hgt
                have Hv5 := Lib.hid hv5
                have hwi : IntKind.i64.wrap (((i + 1 : Nat) : Int) - 1) = (i : Int) := by rw [show (((i + 1 : Nat) : Int) - 1) = (i : Int) by omega]; exact IntWalk.i64_in _ (by omega)
                have hli : i < m + 1 := by omega
                have hwa : IntKind.i64.wrap (a2 * 8) = a2 * 8 := IntWalk.i64_in _ (by omega)
                have hwb : IntKind.i64.wrap (a2 * 8 + a1) = a2 * 8 + a1 := IntWalk.i64_in _ (by omega)
                have hwc : IntKind.i64.wrap ((y - Y) * 8) = (y - Y) * 8 := IntWalk.i64_in _ (by omega)
                have hwd : IntKind.i64.wrap ((y - Y) * 8 + (x - X)) = (y - Y) * 8 + (x - X) := IntWalk.i64_in _ (by omega)
                clear hv5 hca hstep e0 h0 hmi hgt
                by_cases y1 : (y - Y) * 8 + (x - X) < a2 * 8 + a1
                · have d1 : decide ((y - Y) * 8 + (x - X) < a2 * 8 + a1) = true := decide_eq_true y1
                  have HG2 := Lib.hid (show gtC (a1, a2) (x - X, y - Y) = true by rw [Hgt.out]; exact d1)
                  go_wp2_with fail
                  (refine wp_region_quiet_bel (by kernel_rfl) (by kernel_rfl) ?_; (repeat (first | go_big_quiet_step (fail) | quiet_step (fail))); refine wpQuiet_nil ?_; intro wq hw0; obtain ⟨⟨_, hbq⟩, hw1⟩ := hw0; subst hw1; try dsimp only)
                  have hG3 := HG.out.bel hbq
                  have e2 := flat_at hG3 (mem_at Hv5.out s)
                  dsimp only at e2
                  have hln : (i + 1) * 2 + 1 < ((out.take (i + 1) ++ s :: out.drop (i + 1)).flatMap cC ++ rest).length := by rw [List.length_append, flatMap_len cC 2 (fun _ => rfl)]; simp; have := Hm.out; omega
                  obtain ⟨u0, hu0⟩ : ∃ u, wq.cell? ⟨g, (i + 1) * 2, none⟩ = some u := ⟨_, (hG3.cell _).trans (List.getElem?_eq_getElem (by omega))⟩
                  obtain ⟨u1, hu1⟩ : ∃ u, wq.cell? ⟨g, (i + 1) * 2 + 1, none⟩ = some u := ⟨_, (hG3.cell _).trans (List.getElem?_eq_getElem hln)⟩
                  have z0 := hG3.frozen ((i + 1) * 2)
                  have z1 := hG3.frozen ((i + 1) * 2 + 1)
                  have hG4 := hG3.setC (i := i + 1) (by simp; have := Hm.out; omega) a1 a2
                  rw [shift_one Hv5.out s] at hG4
                  have HG4 := Lib.hid hG4
                  have HQ4 := Lib.hid (((HQ2.out.bel hbq).far (p := ⟨g, (i + 1) * 2, none⟩) Hgq.out (.int .i64 a1)).far (p := ⟨g, (i + 1) * 2 + 1, none⟩) Hgq.out (.int .i64 a2))
                  have hgz : w.heap.size ≠ g := by omega
                  have HP4 := Lib.hid (((HP2.out.bel hbq).far (p := ⟨g, (i + 1) * 2, none⟩) hgz (.int .i64 a1)).far (p := ⟨g, (i + 1) * 2 + 1, none⟩) hgz (.int .i64 a2))
                  have HB4 := Lib.hid (bl_set (bl_set (bl_trans HB2.out hbq) (p := ⟨g, (i + 1) * 2, none⟩) (by show w.heap.size ≤ g; omega) (.int .i64 a1)) (p := ⟨g, (i + 1) * 2 + 1, none⟩) (by show w.heap.size ≤ g; omega) (.int .i64 a2))
                  clear hG3 hG4 hln hgz
                  go_wp2_with fail
                  go_roundw
                  case rel => exact ⟨i, (a1, a2), by omega, by go_num, Lib.hid (by rw [Hst.out, HG2.out]; rfl), HG4, HQ4, HP4, HB4⟩
                  case measure => simp [intOf]
                · have d1 : decide ((y - Y) * 8 + (x - X) < a2 * 8 + a1) = false := decide_eq_false y1
                  have HG2 := Lib.hid (show posC out (x - X, y - Y) m = i + 1 by rw [Hst.out, Hgt.out, d1]; rfl)
                  go_wp2_with fail
                  (refine wp_region_quiet_bel (by kernel_rfl) (by kernel_rfl) ?_; (repeat (first | go_big_quiet_step (fail) | quiet_step (fail))); refine wpQuiet_nil ?_; intro wq hw0; obtain ⟨⟨_, hbq⟩, hw1⟩ := hw0; subst hw1; try dsimp only)
                  go_wp2_with fail
                  go_meet
                  refine ⟨s, ?_, ?_, Lib.hid (HQ2.out.bel hbq), Lib.hid (HP2.out.bel hbq), Lib.hid (bl_trans HB2.out hbq)⟩
                  · rw [HG2.out]; rfl
                  · rw [HG2.out]; exact Lib.hid (HG.out.bel hbq)
          case rest =>
            obtain ⟨s, rfl, HG, HQ2, HP2, HB2⟩ := hcut
            clear Hblk HQ HP HB
            obtain ⟨p, hp⟩ : ∃ p, p = posC out (x - X, y - Y) m := ⟨_, rfl⟩
            rw [← hp] at HG Hsn2 ⊢
            have hpm : p ≤ m := by rw [hp]; exact posC_le _ _ _
            clear hp
            have Q4c := HQ2.out.c2
            have hln : p * 2 + 1 < ((out.take p ++ s :: out.drop p).flatMap cC ++ rest).length := by rw [List.length_append, flatMap_len cC 2 (fun _ => rfl)]; simp; have := Hm.out; omega
            obtain ⟨u0, hu0⟩ : ∃ u, wc.cell? ⟨g, p * 2, none⟩ = some u := ⟨_, (HG.out.cell _).trans (List.getElem?_eq_getElem (by omega))⟩
            obtain ⟨u1, hu1⟩ : ∃ u, wc.cell? ⟨g, p * 2 + 1, none⟩ = some u := ⟨_, (HG.out.cell _).trans (List.getElem?_eq_getElem hln)⟩
            have z0 := HG.out.frozen (p * 2)
            have z1 := HG.out.frozen (p * 2 + 1)
            have hfin := HG.out.setC (i := p) (by simp; have := Hm.out; omega) (x - X) (y - Y)
            rw [ins_set out s (x - X, y - Y) (by have := Hm.out; omega)] at hfin
            have hlen2 : (out.take p ++ (x - X, y - Y) :: out.drop p).length = m + 1 := by rw [List.length_append, List.length_cons, List.length_take, List.length_drop]; have := Hm.out; omega
            have hI : ∀ c ∈ out.take p ++ (x - X, y - Y) :: out.drop p, I64 c.1 ∧ I64 c.2 := fun c hc => by
              rcases List.mem_append.1 hc with hc | hc
              · exact Hog.out c (List.mem_append_left _ (List.mem_of_mem_take hc))
              · rcases List.mem_cons.1 hc with rfl | hc
                · exact ⟨hg1, hg2⟩
                · exact Hog.out c (List.mem_append_left _ (List.mem_of_mem_drop hc))
            have hsz2 : ((out.take p ++ (x - X, y - Y) :: out.drop p).flatMap cC ++ rest).length = cap * 2 := by
              have h1 := Hsz.out
              rw [List.length_append, flatMap_len cC 2 (fun _ => rfl)] at h1 ⊢
              rw [hlen2]
              rw [show (out ++ [(x - X, y - Y)]).length = m + 1 by rw [List.length_append, ← Hm.out]; rfl] at h1
              exact h1
            have hown := Blk.ownC' (B := w.heap.size + 1) hfin hBg (by rw [hlen2]; exact hcl) hcm hsz2 hI
            rw [hlen2] at hown
            have Hown := Lib.hid hown
            have hgz : w.heap.size ≠ g := by omega
            have HP4 := Lib.hid ((HP2.out.far (p := ⟨g, p * 2, none⟩) hgz (.int .i64 (x - X))).far (p := ⟨g, p * 2 + 1, none⟩) hgz (.int .i64 (y - Y)))
            have HB4 := Lib.hid (bl_set (bl_set HB2.out (p := ⟨g, p * 2, none⟩) (by show w.heap.size ≤ g; omega) (.int .i64 (x - X))) (p := ⟨g, p * 2 + 1, none⟩) (by show w.heap.size ≤ g; omega) (.int .i64 (y - Y)))
            clear hfin hlen2 hI hsz2 hown hgz hln
            go_wp2_with fail
            go_roundw
            case rel => exact ⟨k + 1, by omega, by go_num, by rw [Hsn2.out]; exact Hown.out, HP4.out, HB4.out⟩
            case measure => simp [intOf]; omega
        · have htk : l.take k = l := List.take_of_length_le (by have := HN.out; omega)
          rw [htk, HFT.out] at own
          have HO := Lib.hid own
          clear own htk
          go_wp2_with fail
          go_ret
          exact ⟨_, rfl, HO.out.mono (by omega), hB⟩
end Go.Proofs.Ytdcjhfmkkcakhaa

/-
  Marks on cells that are set and struck again, and the first cell without a mark: plain facts and facts of memory; no statement is proved here; no condition.
-/
import Derived.Test.YtdcjhfmkkcakhaaCov
import Derived.Test.YtdcjhfmkkcakhaaRows2
namespace Go.Proofs.Ytdcjhfmkkcakhaa
open Go.ChangeShapes Go.WideShapes Go.ChangeAt Go.RowKit Go.Deep
set_option linter.unusedVariables false

theorem Btw.back {g : Nat} {w w' : World} {E : TypeId} {xs : List Value} (h : Btw g (g + 1) w w') (h1 : Blk w g E xs) (h2 : Blk w' g E xs) : Below w.heap.size w w' :=
  ⟨h.os, h.tape, h.output, h.size, fun k hk => by
    by_cases e : k = g
    · subst e; unfold Blk at h1 h2; rw [h1, h2]
    · exact h.block k hk (by omega)⟩
theorem Btw.set {g : Nat} {w w' : World} (h : Btw g (g + 1) w w') (i : Nat) (u : Value) : Btw g (g + 1) w (w'.setCell ⟨g, i, none⟩ u) :=
  h.trans ⟨rfl, rfl, rfl, by simp [World.setCell], fun b _ hr => Below.heap_setCell w' ⟨g, i, none⟩ u b (by show b ≠ g; omega)⟩
theorem Btw.bel {lo hi : Nat} {a w w' : World} (h : Btw lo hi a w) (hb : Below w.heap.size w w') : Btw lo hi a w' := h.trans (Btw.of_bel hb)
theorem OwC.btw {B lo hi : Nat} {w w' : World} {v : Value} {l : List (Int × Int)} (h : OwC B w v l) (hb : Btw lo hi w w') (hh : hi ≤ B) : OwC B w' v l :=
  ⟨h.1, ownsRow_loc h.2.1 (fun k hk hlt => hb.block k hlt (.inr (by have := h.2.1.lt k hk; omega))), h.2.2⟩
theorem mkB_setv {s t k : Nat} {b : Bool} (h : ∀ i < 64, t.testBit i = if i = k then b else s.testBit i) : (mkB s).set k (.bool b) = mkB t := by
  apply List.ext_getElem?
  intro i
  by_cases hi : i < 64
  · rw [mkB_get _ _ hi, h i hi, List.getElem?_set]
    by_cases hk : k = i
    · subst hk
      rw [if_pos rfl, if_pos (by simpa [mkB] using hi), if_pos rfl]
    · rw [if_neg hk, mkB_get _ _ hi, if_neg (fun e => hk e.symm)]
  · rw [List.getElem?_eq_none (by simp [mkB]; omega), List.getElem?_eq_none (by simp [mkB]; omega)]
theorem setL_or_bit (U : Nat) (l : List Cl) (i : Nat) : (U ||| setL l).testBit i = (U.testBit i || decide (∃ c ∈ l, idxN c = i)) := by rw [Nat.testBit_or, setL_bit]
theorem Blk.markB {w : World} {g : Nat} {E : TypeId} {U j : Nat} {l : List Cl} {c : Cl} (h : Blk w g E (mkB (U ||| setL (l.take j)))) (hc : l[j]? = some c) : Blk (w.setCell ⟨g, idxN c, none⟩ (.bool true)) g E (mkB (U ||| setL (l.take (j + 1)))) := by
  have := h.set_ (idxN c) (.bool true)
  rw [mkB_setv (t := U ||| setL (l.take (j + 1))) (fun i _ => ?_)] at this
  · exact this
  · rw [setL_or_bit, setL_or_bit, take_snoc_at hc, Bool.eq_iff_iff]
    by_cases e : i = idxN c
    · rw [if_pos e]
      simp [e]
    · rw [if_neg e]
      simp only [Bool.or_eq_true, decide_eq_true_eq, List.mem_append, List.mem_singleton]
      constructor
      · rintro (h | ⟨d, (hd | rfl), rfl⟩)
        · exact .inl h
        · exact .inr ⟨d, hd, rfl⟩
        · exact absurd rfl e
      · rintro (h | ⟨d, hd, rfl⟩)
        · exact .inl h
        · exact .inr ⟨d, .inl hd, rfl⟩
theorem Blk.clrB {w : World} {g : Nat} {E : TypeId} {U j : Nat} {l : List Cl} {c : Cl} (h : Blk w g E (mkB (U ||| setL (l.drop j)))) (hc : l[j]? = some c) (hok : ∀ c ∈ l, cellOk c.1 c.2 = true) (hn : l.Nodup) (hU : U.testBit (idxN c) = false) :
    Blk (w.setCell ⟨g, idxN c, none⟩ (.bool false)) g E (mkB (U ||| setL (l.drop (j + 1)))) := by
  have := h.set_ (idxN c) (.bool false)
  rw [mkB_setv (t := U ||| setL (l.drop (j + 1))) (fun i _ => ?_)] at this
  · exact this
  · have hd := drop_at hc
    have hcm := List.mem_of_getElem? hc
    have hnd : (l.drop j).Nodup := hn.sublist (List.drop_sublist _ _)
    rw [hd, List.nodup_cons] at hnd
    rw [setL_or_bit, setL_or_bit, hd, Bool.eq_iff_iff]
    by_cases e : i = idxN c
    · subst e
      rw [if_pos rfl, hU]
      simp only [Bool.false_or, decide_eq_true_eq, Bool.false_eq_true, iff_false]
      rintro ⟨d, hd1, hd2⟩
      have : d = c := idxN_inj (hok d (List.mem_of_mem_drop hd1)) (hok c hcm) hd2
      subst this
      exact hnd.1 hd1
    · rw [if_neg e]
      simp only [Bool.or_eq_true, decide_eq_true_eq, List.mem_cons]
      constructor
      · rintro (h | ⟨d, hd, rfl⟩)
        · exact .inl h
        · exact .inr ⟨d, .inr hd, rfl⟩
      · rintro (h | ⟨d, (rfl | hd), rfl⟩)
        · exact .inl h
        · exact absurd rfl e
        · exact .inr ⟨d, hd, rfl⟩
theorem cellsBy_asc (p : Nat → Bool) : ((cellsBy p 64).map idxN).Pairwise (· < ·) := by
  have : (cellsBy p 64).map idxN = (List.range 64).filter p := by
    unfold cellsBy
    rw [List.map_map]
    conv => rhs; rw [← List.map_id ((List.range 64).filter p)]
    exact List.map_congr_left fun k _ => idxN_of k
  rw [this]
  exact List.pairwise_lt_range.filter _
theorem first_free {R U : Nat} (hR : R < 18446744073709551616) (hU : U < 18446744073709551616) {cs : List Cl} (hcs : cs = cellsBy R.testBit 64) {a : Nat} (h1 : ∀ j < a, ∀ c, cs[j]? = some c → U.testBit (idxN c) = true) :
    (a = cs.length → bdiff R U = 0) ∧ ∀ c, cs[a]? = some c → U.testBit (idxN c) = false → c = cellOf (lowb (bdiff R U)) ∧ bdiff R U ≠ 0 := by
  have key : ∀ i, (bdiff R U).testBit i = true → ∃ m : Nat, a ≤ m ∧ cs[m]? = some (cellOf i) ∧ i < 64 := fun i hi => by
    have hb := hi
    rw [bdiff_bit hR hU, Bool.and_eq_true] at hb
    have h64 : i < 64 := by
      rcases Nat.lt_or_ge i 64 with h | h
      · exact h
      · have : R.testBit i = false := Nat.testBit_lt_two_pow (Nat.lt_of_lt_of_le hR (by
          have : 2 ^ 64 ≤ 2 ^ i := Nat.pow_le_pow_right (by decide) h
          omega))
        rw [this] at hb; simp at hb
    have hm : cellOf i ∈ cs := by rw [hcs, mem_cellsBy, idxN_of]; exact ⟨cellOf_ok i h64, hb.1⟩
    obtain ⟨m, hm, e⟩ := List.getElem_of_mem hm
    have e2 : cs[m]? = some (cellOf i) := by rw [List.getElem?_eq_getElem hm, e]
    refine ⟨m, ?_, e2, h64⟩
    rcases Nat.lt_or_ge m a with h | h
    · have := h1 m h _ e2
      rw [idxN_of] at this
      rw [this] at hb; simp at hb
    · exact h
  constructor
  · intro e
    apply Nat.eq_of_testBit_eq; intro i
    rw [Nat.zero_testBit]
    cases hi : (bdiff R U).testBit i
    · rfl
    · obtain ⟨m, hm, e2, _⟩ := key i hi
      have := (List.getElem?_eq_some_iff.1 e2).1
      omega
  · intro c hc hu
    have hmem := List.mem_of_getElem? hc
    rw [hcs, mem_cellsBy] at hmem
    have hbit : (bdiff R U).testBit (idxN c) = true := by rw [bdiff_bit hR hU, hmem.2, hu]; rfl
    refine ⟨?_, fun e => by rw [e] at hbit; simp at hbit⟩
    rw [lowb_eq (idxN_lt hmem.1) hbit, of_idxN hmem.1]
    intro j hj
    cases hjb : (bdiff R U).testBit j
    · rfl
    · exfalso
      obtain ⟨m, hm, e2, h64⟩ := key j hjb
      have hp := cellsBy_asc R.testBit
      rw [← hcs, List.pairwise_iff_getElem] at hp
      obtain ⟨hm1, hm2⟩ := List.getElem?_eq_some_iff.1 e2
      obtain ⟨ha1, ha2⟩ := List.getElem?_eq_some_iff.1 hc
      rcases Nat.lt_or_ge a m with h | h
      · have := hp a m (by simpa using ha1) (by simpa using hm1) h
        simp only [List.getElem_map, hm2, ha2, idxN_of] at this
        omega
      · obtain rfl : a = m := by omega
        rw [hc] at e2
        injection e2 with e2
        rw [e2, idxN_of] at hj; omega
theorem all_sub {s : Nat} {l : List Cl} : (l.all fun c => s.testBit (idxN c)) = (s &&& setL l == setL l) := by
  rw [Bool.eq_iff_iff, List.all_eq_true, beq_iff_eq]
  constructor
  · intro h
    refine sub_of_bits fun i hi => ?_
    rw [setL_bit, decide_eq_true_eq] at hi
    obtain ⟨c, hc, rfl⟩ := hi
    exact h c hc
  · intro h c hc
    exact sub_bit h _ (by rw [setL_bit, decide_eq_true_eq]; exact ⟨c, hc, rfl⟩)
theorem sub_disj {R U : Nat} {l : List Cl} (hR : R < 18446744073709551616) (hU : U < 18446744073709551616) (h : bdiff R U &&& setL l = setL l) : ∀ c ∈ l, U.testBit (idxN c) = false := fun c hc => by
  have h1 := sub_bit h (idxN c) (by rw [setL_bit, decide_eq_true_eq]; exact ⟨c, hc, rfl⟩)
  rw [bdiff_bit hR hU, Bool.and_eq_true] at h1
  simpa using h1.2
theorem card_le (s : Nat) : card s ≤ 64 := by unfold card; exact Nat.le_trans (List.length_filter_le _ _) (by simp)
theorem all_snoc_lt' {p : Nat → Prop} {q : Nat} (h : ∀ j < q, p j) (hq : p q) : ∀ j < q + 1, p j := fun j hj => by
  by_cases e : j = q
  · subst e; exact hq
  · exact h j (by omega)
def frTo (s : Nat) (l : List Cl) (j : Nat) : Bool := (l.take j).all fun c => s.testBit (idxN c)
theorem frTo_succ {s : Nat} {l : List Cl} {j : Nat} {c : Cl} (h : l[j]? = some c) : frTo s l (j + 1) = (frTo s l j && s.testBit (idxN c)) := by unfold frTo; rw [take_snoc_at h]; simp
theorem frTo_all {s : Nat} {l : List Cl} {j : Nat} (h : j = l.length) : frTo s l j = (s &&& setL l == setL l) := by unfold frTo; rw [List.take_of_length_le (by omega), all_sub]
theorem bdiff_or_card {R U o s f : Nat} (hR : R < 18446744073709551616) (hU : U < 18446744073709551616) (ho : o < 18446744073709551616) (hs : s = bdiff R U) (h : s &&& o = o) (h0 : o ≠ 0) (hf : card s ≤ f + 1) : bdiff R (U ||| o) = bdiff s o ∧ card (bdiff R (U ||| o)) ≤ f := by
  have e : bdiff R (U ||| o) = bdiff s o := by rw [hs, bdiff_or hR hU ho]
  refine ⟨e, ?_⟩
  rw [e]
  have hsl : s < 18446744073709551616 := by rw [hs]; exact bdiff_lt hR
  have := card_diff hsl ho h
  have hc : card o ≠ 0 := fun e => h0 ((card_zero ho).1 e)
  omega
end Go.Proofs.Ytdcjhfmkkcakhaa

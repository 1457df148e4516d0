/-
  The plain law of FnLayings, second part: what FindLaying finds is an order of laying; in a region of one piece it finds one. No program in sight.
-/
import Derived.Test.YtdcjhfmkkcakhaaLayP
import Derived.Test.YtdcjhfmkkcakhaaTil
namespace Go.Proofs.Ytdcjhfmkkcakhaa
open Go.ChangeShapes Go.WideShapes Go.ChangeAt Go.RowKit Go.Deep
set_option linter.unusedVariables false

theorem ownD_bit (d : Dm) (i : Nat) : (ownD d).testBit i = (decide (idxN (c1D d) = i) || decide (idxN (c2D d) = i)) := by
  unfold ownD setD
  rw [Nat.testBit_or, nthBit_test, nthBit_test]; rfl
structure TilF (s : Nat) (l : List Dm) : Prop where
  ok : ∀ d ∈ l, okD d = true
  sub : ∀ d ∈ l, ∀ i, (ownD d).testBit i = true → s.testBit i = true
  dis : ∀ d ∈ l, ∀ e ∈ l, ∀ i, (ownD d).testBit i = true → (ownD e).testBit i = true → d = e
  nd : l.Nodup
theorem TilF.mono {s : Nat} {l out : List Dm} (h : TilF s l) (hs : ∀ d ∈ out, d ∈ l) (hn : out.Nodup) : TilF s out :=
  ⟨fun d hd => h.ok d (hs d hd), fun d hd => h.sub d (hs d hd), fun d hd e he => h.dis d (hs d hd) e (hs e he), hn⟩
theorem take_fac : ∀ (l : List Dm) (s u : Nat) (p : Option Dm), s < 18446744073709551616 → takeP s p l = some u → TilF s l := by
  intro l
  induction l with
  | nil => intro s u p _ _; exact ⟨by simp, by simp, by simp, List.nodup_nil⟩
  | cons d l ih =>
    intro s u p hs h
    obtain ⟨hd, ho, h⟩ : okD d = true ∧ s &&& ownD d = ownD d ∧ takeP (bdiff s (ownD d)) (some d) l = some u := by
      rw [takeP_cons] at h
      split at h
      · rename_i hc
        simp only [Bool.and_eq_true, beq_iff_eq] at hc
        exact ⟨hc.1.1, hc.1.2, h⟩
      · cases h
    have ih := ih _ _ _ (bdiff_lt hs) h
    have hr : ∀ e ∈ l, ∀ i, (ownD e).testBit i = true → s.testBit i = true ∧ (ownD d).testBit i = false := by
      intro e he i hi
      have := ih.sub e he i hi
      rw [bdiff_bit hs (ownD_lt hd)] at this
      simpa using this
    refine ⟨fun e he => ?_, fun e he i hi => ?_, fun e he f hf i h1 h2 => ?_, List.nodup_cons.2 ⟨fun hm => ?_, ih.nd⟩⟩
    · rcases List.mem_cons.1 he with rfl | he
      · exact hd
      · exact ih.ok e he
    · rcases List.mem_cons.1 he with rfl | he
      · exact sub_bit ho i hi
      · exact (hr e he i hi).1
    · rcases List.mem_cons.1 he with e1 | he2
      · rcases List.mem_cons.1 hf with e2 | hf2
        · rw [e1, e2]
        · rw [e1, (hr f hf2 i h2).2] at h1; cases h1
      · rcases List.mem_cons.1 hf with e2 | hf2
        · rw [e2, (hr e he2 i h1).2] at h2; cases h2
        · exact ih.dis e he2 f hf2 i h1 h2
    · have hb : (ownD d).testBit (idxN (c1D d)) = true := by rw [ownD_bit]; simp
      rw [(hr d hm _ hb).2] at hb; cases hb
theorem take_mk : ∀ (l : List Dm) (s : Nat) (p : Option Dm), s < 18446744073709551616 → TilF s l → l.Pairwise (fun d e => befD d e = true) → (∀ d, l.head? = some d → prB p d = true) → (takeP s p l).isSome = true := by
  intro l
  induction l with
  | nil => intro s p _ _ _ _; rfl
  | cons d l ih =>
    intro s p hs ht hp hb
    have hd := ht.ok d List.mem_cons_self
    have h1 : s &&& ownD d = ownD d := sub_of_bits (ht.sub d List.mem_cons_self)
    have hnd := List.nodup_cons.1 ht.nd
    have hpw := List.pairwise_cons.1 hp
    rw [takeP_cons, hd, h1, hb d rfl, beq_self_eq_true, if_pos (by decide)]
    refine ih _ _ (bdiff_lt hs) ⟨fun e he => ht.ok e (List.mem_cons_of_mem _ he), fun e he i hi => ?_, fun e he f hf => ht.dis e (List.mem_cons_of_mem _ he) f (List.mem_cons_of_mem _ hf), hnd.2⟩ hpw.2 fun e he => hpw.1 e (List.mem_of_mem_head? he)
    rw [bdiff_bit hs (ownD_lt hd), ht.sub e (List.mem_cons_of_mem _ he) i hi, Bool.true_and, Bool.not_eq_true']
    cases hx : (ownD d).testBit i with
    | false => rfl
    | true =>
      have := ht.dis d List.mem_cons_self e (List.mem_cons_of_mem _ he) i hx hi
      subst this
      exact absurd he hnd.1
theorem Sor.pair {out : List Dm} (h : Sor out) : out.Pairwise (fun d e => befD d e = true) := by
  rw [List.pairwise_iff_getElem]
  intro i j hi hj hij
  have e1 : dAt out i = out[i] := by unfold dAt; rw [List.getElem?_eq_getElem hi]; rfl
  have e2 : dAt out j = out[j] := by unfold dAt; rw [List.getElem?_eq_getElem hj]; rfl
  have h1 := h.ok i hi
  have h2 := h.ok j hj
  have h3 := h.lt j hj i hij
  rw [e1] at h1 h3
  rw [e2] at h2 h3
  unfold befD
  rw [h1, h2, decide_eq_true h3]; rfl
theorem Sor.nd {out : List Dm} (h : Sor out) : out.Nodup := by
  refine h.pair.imp fun {a b} hb => ?_
  rintro rfl
  unfold befD at hb
  rw [decide_eq_false (Int.lt_irrefl _)] at hb
  simp at hb
theorem til_fac {rs : List Int} {l : List Dm} (h : isTiling rs l = true) : regOk rs = true ∧ TilF (regSet rs) l ∧ covers l = regSet rs := by
  rw [isTiling_cov, Bool.and_eq_true, beq_iff_eq] at h
  obtain ⟨h1, h2⟩ := h
  unfold isPartial at h1
  rw [Bool.and_eq_true] at h1
  cases ht : takeP (regSet rs) none l with
  | none => rw [ht] at h1; cases h1.2
  | some u => exact ⟨h1.1, take_fac _ _ _ _ (regSet_lt h1.1) ht, h2⟩
theorem sort_part {rs : List Int} {out : List Dm} (hr : regOk rs = true) (h : TilF (regSet rs) out) : isPartial rs (sortD out) = true ∧ (sortD out).length = out.length := by
  have hm : ∀ d, d ∈ sortD out ↔ d ∈ out := fun d => by
    rw [sortD_mem]
    exact ⟨fun h => h.1, fun h1 => ⟨h1, h.ok d h1⟩⟩
  have hn := (sortD_sor out).nd
  refine ⟨?_, Nat.le_antisymm (nodup_subD hn fun d hd => (hm d).1 hd) (nodup_subD h.nd fun d hd => (hm d).2 hd)⟩
  unfold isPartial
  rw [hr, Bool.true_and]
  exact take_mk _ _ _ (regSet_lt hr) (h.mono (fun d hd => (hm d).1 hd) hn) (sortD_sor out).pair fun _ _ => rfl
theorem Chn.drop : ∀ (j : Nat) {o : List Dm}, Chn o → Chn (o.drop j) := by
  intro j
  induction j with
  | zero => intro o h; exact h
  | succ j ih =>
    intro o h
    cases o with
    | nil => exact h
    | cons d o => exact ih h.tail
theorem lay_one {rs : List Int} {o : List Dm} {c : Cl} (ht : TilF (regSet rs) o) (hc : (regOk rs && cellOk c.1 c.2 && regHas rs c.1 c.2) = true) (hch : Chn o) (hl : ∀ d, o.getLast? = some d → c = c1D d ∨ c = c2D d) {j : Nat} {d : Dm} (hj : o[j]? = some d) : canLayR rs c (o.take j) d = true := by
  obtain ⟨hjl, hjd⟩ := List.getElem?_eq_some_iff.1 hj
  have hc' := hc
  rw [Bool.and_eq_true, Bool.and_eq_true] at hc'
  obtain ⟨⟨hreg, hok⟩, _⟩ := hc'
  have hS := regSet_lt hreg
  have hfree : ∀ e ∈ o.drop j, ∀ i, (ownD e).testBit i = true → (bdiff (regSet rs) (covers (o.take j))).testBit i = true := by
    intro e he i hi
    have heo := List.mem_of_mem_drop he
    rw [bdiff_bit hS (covers_lt _), ht.sub e heo i hi, Bool.true_and, Bool.not_eq_true', covers_bit, decide_eq_false_iff_not]
    rintro ⟨f, hf, _, hb⟩
    have := ht.dis f (List.mem_of_mem_take hf) e heo i hb hi
    subst this
    have hnd := ht.nd
    rw [← List.take_append_drop j o, List.nodup_append] at hnd
    exact hnd.2.2 f hf f he rfl
  have hd : d ∈ o.drop j := by
    rw [List.drop_eq_getElem_cons hjl, hjd]; exact List.mem_cons_self
  have hbits : ∀ e ∈ o.drop j, okD e = true ∧ (bdiff (regSet rs) (covers (o.take j))).testBit (idxN (c1D e)) = true ∧ (bdiff (regSet rs) (covers (o.take j))).testBit (idxN (c2D e)) = true := fun e he =>
    ⟨ht.ok e (List.mem_of_mem_drop he), hfree e he _ (by rw [ownD_bit]; simp), hfree e he _ (by rw [ownD_bit]; simp)⟩
  have hlast : ∀ e, (o.drop j).getLast? = some e → c = c1D e ∨ c = c2D e := fun e he => by
    rw [List.getLast?_drop, if_neg (by omega)] at he
    exact hl e he
  have hR := chn_reach hok (o.drop j) (hch.drop j) hbits hlast d hd
  have hcb : (bdiff (regSet rs) (covers (o.take j))).testBit (idxN c) = true := by
    cases hgl : (o.drop j).getLast? with
    | none => rw [List.getLast?_eq_none_iff] at hgl; rw [hgl] at hd; cases hd
    | some e =>
      have he := List.mem_of_getLast? hgl
      rcases hlast e hgl with h | h
      · rw [h]; exact (hbits e he).2.1
      · rw [h]; exact (hbits e he).2.2
  have htj : TilF (regSet rs) (o.take j) := ht.mono (fun e he => List.mem_of_mem_take he) (ht.nd.sublist (List.take_sublist j o))
  unfold canLayR canLayB
  rw [hc, (sort_part hreg htj).1, hcb, (hbits d hd).1]
  simp only [Bool.true_and, beq_iff_eq]
  refine sub_of_bits fun i hi => ?_
  rw [ownD_bit] at hi
  simp only [Bool.or_eq_true, decide_eq_true_eq] at hi
  rw [setL_bit, decide_eq_true_eq]
  rcases hi with rfl | rfl
  · exact ⟨_, hR.1, rfl⟩
  · exact ⟨_, hR.2, rfl⟩
theorem domAt_over : ∀ (l : List Dm) (c : Cl) (k : Int), 0 ≤ k → 0 ≤ domAt l c k → ∃ (j : Nat) (d : Dm), domAt l c k = k + j ∧ l[j]? = some d ∧ overD d c = true := by
  intro l
  induction l with
  | nil => intro c k _ h; simp [domAt] at h
  | cons d l ih =>
    intro c k hk h
    rw [domAt] at h ⊢
    split
    · rename_i hc
      exact ⟨0, d, by simp, by simp, hc⟩
    · rename_i hn
      rw [if_neg hn] at h
      obtain ⟨j, e, h1, h2, h3⟩ := ih c (k + 1) (by omega) h
      exact ⟨j + 1, e, by rw [h1]; push_cast; omega, by simpa using h2, h3⟩
theorem door_in {rs : List Int} {list : List Dm} {c : Cl} (h1 : isTiling rs list = true) (h2 : (regOk rs && cellOk c.1 c.2 && regHas rs c.1 c.2) = true) : doorD list c ∈ list ∧ (c = c1D (doorD list c) ∨ c = c2D (doorD list c)) := by
  obtain ⟨k, e1, e2⟩ := door_at (x := c.1) (y := c.2) h1 h2
  obtain ⟨j, d, g1, g2, g3⟩ := domAt_over list (c.1, c.2) 0 (Int.le_refl _) (by rw [e1]; omega)
  have hjk : j = k := by rw [e1] at g1; omega
  subst hjk
  rw [e2] at g2
  injection g2 with g2
  refine ⟨List.mem_of_getElem? e2, ?_⟩
  have g4 : overD (doorD list c) c = true := by rw [show doorD list c = d from g2]; exact g3
  unfold overD at g4
  simp only [Bool.and_eq_true, Bool.or_eq_true, decide_eq_true_eq] at g4
  rcases g4.2 with h | h
  · exact .inl h.symm
  · exact .inr h.symm
/-- what FindLaying finds -/
theorem find_lay {rs : List Int} {c : Cl} {list o : List Dm} (h : findLay rs c list = some o) :
    layOrd rs c o = true ∧ o.length = list.length ∧ o ≠ [] ∧ (∀ d, o.getLast? = some d → okD d = true ∧ (c = c1D d ∨ c = c2D d)) ∧ ∀ j d, o[j]? = some d → canLayR rs c (o.take j) d = true := by
  unfold findLay at h
  split at h
  · rename_i hc
    rw [Bool.and_eq_true] at hc
    obtain ⟨ht, hc⟩ := hc
    split at h
    · rename_i hlen
      injection h with h
      obtain ⟨hreg, hf, hcov⟩ := til_fac ht
      obtain ⟨hdm, hdc⟩ := door_in ht hc
      obtain ⟨k1, pre, k2⟩ := layL_chn (list := list) list.length [doorD list c] trivial (by simp)
      have hg : GoodD list (layL list list.length [doorD list c]) := layL_good list.length _ ⟨by simp, fun d hd => by rw [List.mem_singleton] at hd; rw [hd]; exact hdm⟩
      rw [h] at k1 k2 hg hlen
      have hT : TilF (regSet rs) o := hf.mono hg.sub hg.nd
      have hlast : ∀ d, o.getLast? = some d → d = doorD list c := fun d hd => by
        rw [k2, List.getLast?_append] at hd
        simpa using hd.symm
      have hall : ∀ j d, o[j]? = some d → canLayR rs c (o.take j) d = true := fun j d hj => lay_one hT hc k1 (fun d hd => by rw [hlast d hd]; exact hdc) hj
      refine ⟨?_, hlen, by rw [k2]; simp, fun d hd => by rw [hlast d hd]; exact ⟨hf.ok _ hdm, hdc⟩, hall⟩
      obtain ⟨p1, p2⟩ := sort_part hreg hT
      have hsame : ∀ d ∈ list, d ∈ o := fun d hd => Decidable.byContradiction fun hn => by
        have := nodup_subD (a := d :: o) (b := list) (List.nodup_cons.2 ⟨hn, hg.nd⟩) (fun e he => by
          rcases List.mem_cons.1 he with rfl | he
          · exact hd
          · exact hg.sub e he)
        rw [List.length_cons] at this
        omega
      have hco : covers (sortD o) = regSet rs := by
        rw [covers_sort, ← hcov]
        apply Nat.eq_of_testBit_eq; intro i
        rw [covers_bit, covers_bit]
        apply decide_eq_decide.2
        exact ⟨fun ⟨d, h1, h2⟩ => ⟨d, hg.sub d h1, h2⟩, fun ⟨d, h1, h2⟩ => ⟨d, hsame d h1, h2⟩⟩
      unfold layOrd
      rw [isTiling_cov, p1, hco, decide_eq_true p2, beq_self_eq_true]
      simp only [Bool.true_and, decide_eq_true_eq]
      intro j hj
      have := List.getElem?_eq_getElem hj
      rw [layOK_at this]
      exact hall j _ this
    · cases h
  · cases h
/-! ### one piece -/
def pieceC (rs : List Int) (c : Cl) : List Cl := cellsBy (setL (reachL (regSet rs) c)).testBit 64
def cntPieces (rs : List Int) : Nat := ((regCells rs).filter fun c => decide ((pieceC rs c)[0]? = some c)).length
theorem cells_head' {s : Nat} (hs : s < 18446744073709551616) (h0 : s ≠ 0) : (cellsBy s.testBit 64)[0]? = some (cellOf (lowb s)) := by
  have h1 : ((List.range 64).filter s.testBit)[0]? = some (lowb s) := by
    rw [← List.head?_eq_getElem?, List.head?_filter]
    obtain ⟨l1, l2, l3⟩ := lowb_spec hs h0
    rw [List.find?_range_eq_some]
    exact ⟨l2, List.mem_range.2 l1, fun j hj => by simp [l3 j hj]⟩
  unfold cellsBy
  rw [List.getElem?_map, h1]; rfl
theorem piece_low {rs : List Int} {a : Nat} (ha : a < 18446744073709551616) (h0 : a ≠ 0)
    (hcl : ∀ x d : Cl, cellOk x.1 x.2 = true → a.testBit (idxN x) = true → cellOk d.1 d.2 = true → (regSet rs).testBit (idxN d) = true → nbr x.1 x.2 d.1 d.2 = true → a.testBit (idxN d) = true) :
    (pieceC rs (cellOf (lowb a)))[0]? = some (cellOf (lowb a)) := by
  obtain ⟨l1, l2, l3⟩ := lowb_spec ha h0
  have hok := cellOf_ok _ l1
  have hw := reachL_wf (regSet rs) hok
  have hb : (setL (reachL (regSet rs) (cellOf (lowb a)))).testBit (lowb a) = true := by
    rw [setL_bit, decide_eq_true_eq]; exact ⟨_, reach_self _ _, idxN_of _⟩
  have hin := reach_in (s := regSet rs) (c := cellOf (lowb a)) (P := fun x => cellOk x.1 x.2 = true ∧ a.testBit (idxN x) = true) ⟨hok, by rw [idxN_of]; exact l2⟩ (fun x d hx h1 h2 h3 => ⟨h1, hcl x d hx.1 hx.2 h1 h2 h3⟩)
  have hlt : setL (reachL (regSet rs) (cellOf (lowb a))) < 18446744073709551616 := setL_lt hw.ok
  have hne : setL (reachL (regSet rs) (cellOf (lowb a))) ≠ 0 := by intro e; rw [e] at hb; simp at hb
  unfold pieceC
  generalize hS : setL (reachL (regSet rs) (cellOf (lowb a))) = S at *
  obtain ⟨m1, m2, m3⟩ := lowb_spec hlt hne
  have e1 : ¬ lowb a < lowb S := fun h => by rw [m3 _ h] at hb; cases hb
  have e2 : ¬ lowb S < lowb a := fun h => by
    have h2 := m2
    rw [← hS, setL_bit, decide_eq_true_eq, hS] at h2
    obtain ⟨c, h3, h4⟩ := h2
    have := (hin c h3).2
    rw [h4, l3 _ h] at this; cases this
  rw [cells_head' hlt hne, show lowb S = lowb a by omega]
theorem layL_stop {list : List Dm} : ∀ (f : Nat) (out : List Dm), GoodD list out → list.length < f + out.length → nextD list (layL list f out) = none := by
  intro f
  induction f with
  | zero => intro out h hl; have := h.len; omega
  | succ f ih =>
    intro out h hl
    rw [layL]
    cases hk : nextD list out with
    | none => exact hk
    | some k =>
      dsimp only
      have hp := nextAt_prop2 _ _ _ hk
      cases hd : list[k]? with
      | none => rw [List.getElem?_eq_none_iff] at hd; omega
      | some d =>
        dsimp only
        have hc := hp.1
        rw [canAt_at hd] at hc
        exact ih _ (h.cons hd hc) (by rw [List.length_cons]; omega)
theorem nextAt_non2 {list out : List Dm} : ∀ (f j : Nat), nextAt list out f j = none → ∀ i, j ≤ i → i < j + f → canAt list out i = false := by
  intro f
  induction f with
  | zero => intro j _ i h1 h2; omega
  | succ f ih =>
    intro j h i h1 h2
    rw [nextAt] at h
    split at h
    · cases h
    · rename_i hc
      rcases Nat.lt_or_ge j i with h6 | h6
      · exact ih _ h i h6 (by omega)
      · rw [show i = j by omega]; simpa using hc
theorem tch_of {d e : Dm} (hd : okD d = true) (he : okD e = true) (hdis : ∀ i, (ownD d).testBit i = true → (ownD e).testBit i = false) {x y : Cl} (hx : x = c1D d ∨ x = c2D d) (hy : y = c1D e ∨ y = c2D e) (hn : nbr x.1 x.2 y.1 y.2 = true) : tch d e = true := by
  have ho : ovl d.1 d.2.1 d.2.2 e.1 e.2.1 e.2.2 = false := by
    have := ovl_set (show domOk d.1 d.2.1 d.2.2 = true from hd) (show domOk e.1 e.2.1 e.2.2 = true from he)
    rw [← this]
    have h0 : setD d.1 d.2.1 d.2.2 &&& setD e.1 e.2.1 e.2.2 = 0 := by
      apply Nat.eq_of_testBit_eq; intro i
      rw [Nat.testBit_and, Nat.zero_testBit]
      cases h1 : (setD d.1 d.2.1 d.2.2).testBit i with
      | false => rfl
      | true => rw [Bool.true_and]; exact hdis i h1
    rw [h0]; rfl
  unfold tch touch
  rw [show domOk d.1 d.2.1 d.2.2 = true from hd, show domOk e.1 e.2.1 e.2.2 = true from he, ho]
  simp only [Bool.true_and, Bool.not_false, Bool.or_eq_true]
  rcases hx with rfl | rfl <;> rcases hy with rfl | rfl
  · exact .inl (.inl (.inl hn))
  · exact .inl (.inl (.inr hn))
  · exact .inl (.inr hn)
  · exact .inr hn
theorem own_cell {d : Dm} {x : Cl} (hd : okD d = true) (hx : cellOk x.1 x.2 = true) (h : (ownD d).testBit (idxN x) = true) : x = c1D d ∨ x = c2D d := by
  obtain ⟨k1, k2, _⟩ := c12_nbr hd
  rw [ownD_bit] at h
  simp only [Bool.or_eq_true, decide_eq_true_eq] at h
  rcases h with h | h
  · exact .inl (by rw [← of_idxN hx, ← h, of_idxN k1])
  · exact .inr (by rw [← of_idxN hx, ← h, of_idxN k2])
theorem one_piece {rs : List Int} {c : Cl} {list : List Dm} (h1 : cntPieces rs = 1) (ht : isTiling rs list = true) (hc : (regOk rs && cellOk c.1 c.2 && regHas rs c.1 c.2) = true) : (findLay rs c list).isSome = true := by
  obtain ⟨hreg, hf, hcov⟩ := til_fac ht
  obtain ⟨hdm, hdc⟩ := door_in ht hc
  have hS := regSet_lt hreg
  unfold findLay
  rw [ht, hc, Bool.and_self, if_pos rfl]
  split
  · rfl
  · rename_i hlen
    exfalso
    have hg0 : GoodD list [doorD list c] := ⟨by simp, fun d hd => by rw [List.mem_singleton] at hd; rw [hd]; exact hdm⟩
    have hg := layL_good list.length _ hg0
    have hstop := layL_stop list.length _ hg0 (by simp)
    obtain ⟨_, pre, hpre⟩ := layL_chn (list := list) list.length [doorD list c] trivial (by simp)
    generalize layL list list.length [doorD list c] = out at *
    have hle := hg.len
    have hno : ∀ d ∈ list, d ∉ out → ∀ e ∈ out, tch d e = false := by
      intro d hd hdo e he
      obtain ⟨i, hi, rfl⟩ := List.getElem_of_mem hd
      have h2 := nextAt_non2 _ _ hstop i (Nat.zero_le _) (by omega)
      rw [canAt_at (List.getElem?_eq_getElem hi)] at h2
      unfold canD at h2
      rw [decide_eq_false hdo, Bool.not_false, Bool.true_and, List.any_eq_false] at h2
      simpa using h2 e he
    have hdo : doorD list c ∈ out := by rw [hpre]; simp
    obtain ⟨m, hm, hmo⟩ : ∃ m ∈ list, m ∉ out := by
      refine Decidable.byContradiction fun hn => hlen ?_
      refine Nat.le_antisymm hle (nodup_subD hf.nd fun d hd => Decidable.byContradiction fun hx => hn ⟨d, hd, hx⟩)
    have hA : ∀ i, (covers out).testBit i = true ↔ ∃ d ∈ out, (ownD d).testBit i = true := fun i => by
      rw [covers_bit, decide_eq_true_eq]
      exact ⟨fun ⟨d, g1, _, g2⟩ => ⟨d, g1, g2⟩, fun ⟨d, g1, g2⟩ => ⟨d, g1, hf.ok d (hg.sub d g1), g2⟩⟩
    have hL : ∀ i, (regSet rs).testBit i = true ↔ ∃ d ∈ list, (ownD d).testBit i = true := fun i => by
      rw [← hcov, covers_bit, decide_eq_true_eq]
      exact ⟨fun ⟨d, g1, _, g2⟩ => ⟨d, g1, g2⟩, fun ⟨d, g1, g2⟩ => ⟨d, g1, hf.ok d g1, g2⟩⟩
    have hB : ∀ i, (bdiff (regSet rs) (covers out)).testBit i = true ↔ (regSet rs).testBit i = true ∧ ¬ (covers out).testBit i = true := fun i => by
      rw [bdiff_bit hS (covers_lt _)]; simp
    have hclA : ∀ x d : Cl, cellOk x.1 x.2 = true → (covers out).testBit (idxN x) = true → cellOk d.1 d.2 = true → (regSet rs).testBit (idxN d) = true → nbr x.1 x.2 d.1 d.2 = true → (covers out).testBit (idxN d) = true := by
      intro x y hx hxa hy hyr hn
      obtain ⟨d, g1, g2⟩ := (hA _).1 hxa
      obtain ⟨e, g3, g4⟩ := (hL _).1 hyr
      refine (hA _).2 ⟨e, Decidable.byContradiction fun heo => ?_, g4⟩
      have hd := hf.ok d (hg.sub d g1)
      have he := hf.ok e g3
      have := hno e g3 heo d g1
      rw [tch_of he hd (fun i hi => ?_) (own_cell he hy g4) (own_cell hd hx g2) (by rw [nbr_comm]; exact hn)] at this
      · cases this
      · cases hz : (ownD d).testBit i with
        | false => rfl
        | true => exact absurd (hf.dis e g3 d (hg.sub d g1) i hi hz ▸ g1) heo
    have hclB : ∀ x d : Cl, cellOk x.1 x.2 = true → (bdiff (regSet rs) (covers out)).testBit (idxN x) = true → cellOk d.1 d.2 = true → (regSet rs).testBit (idxN d) = true → nbr x.1 x.2 d.1 d.2 = true → (bdiff (regSet rs) (covers out)).testBit (idxN d) = true := by
      intro x y hx hxa hy hyr hn
      obtain ⟨g1, g2⟩ := (hB _).1 hxa
      exact (hB _).2 ⟨hyr, fun hya => g2 (hclA y x hy hya hx g1 (by rw [nbr_comm]; exact hn))⟩
    have hA0 : covers out ≠ 0 := fun e => by
      have := (hA (idxN (c1D (doorD list c)))).2 ⟨_, hdo, by rw [ownD_bit]; simp⟩
      rw [e] at this; simp at this
    have hB0 : bdiff (regSet rs) (covers out) ≠ 0 := fun e => by
      have hb : (ownD m).testBit (idxN (c1D m)) = true := by rw [ownD_bit]; simp
      have := (hB (idxN (c1D m))).2 ⟨(hL _).2 ⟨m, hm, hb⟩, fun hx => by
        obtain ⟨d, g1, g2⟩ := (hA _).1 hx
        exact hmo (hf.dis d (hg.sub d g1) m hm _ g2 hb ▸ g1)⟩
      rw [e] at this; simp at this
    have pA := piece_low (covers_lt out) hA0 hclA
    have pB := piece_low (bdiff_lt hS) hB0 hclB
    obtain ⟨a1, a2, _⟩ := lowb_spec (covers_lt out) hA0
    obtain ⟨b1, b2, _⟩ := lowb_spec (bdiff_lt (b := covers out) hS) hB0
    have inR : ∀ q, q < 64 → (regSet rs).testBit q = true → cellOf q ∈ regCells rs := fun q hq hb => by
      rw [regCells_set hreg, mem_cellsBy]; exact ⟨cellOf_ok _ hq, by rw [idxN_of]; exact hb⟩
    have mA : cellOf (lowb (covers out)) ∈ (regCells rs).filter fun c => decide ((pieceC rs c)[0]? = some c) := by
      rw [List.mem_filter, decide_eq_true_eq]
      refine ⟨inR _ a1 ?_, pA⟩
      obtain ⟨d, g1, g2⟩ := (hA _).1 a2
      exact (hL _).2 ⟨d, hg.sub d g1, g2⟩
    have mB : cellOf (lowb (bdiff (regSet rs) (covers out))) ∈ (regCells rs).filter fun c => decide ((pieceC rs c)[0]? = some c) := by
      rw [List.mem_filter, decide_eq_true_eq]
      exact ⟨inR _ b1 ((hB _).1 b2).1, pB⟩
    obtain ⟨z, hz⟩ := List.length_eq_one_iff.1 h1
    rw [hz, List.mem_singleton] at mA mB
    have : lowb (covers out) = lowb (bdiff (regSet rs) (covers out)) := by
      have h3 := congrArg idxN (mA.trans mB.symm)
      rwa [idxN_of, idxN_of] at h3
    exact ((hB _).1 b2).2 (this ▸ a2)
end Go.Proofs.Ytdcjhfmkkcakhaa

/-
  The plain law of FnShapes: a shape that is grown cell by cell has 1, 2, 4 or 8 turns, each of them valid; a shape of two cells is a domino. No program in sight.
-/
import Derived.Test.YtdcjhfmkkcakhaaNeut
import Derived.Test.YtdcjhfmkkcakhaaCovS
import Derived.Test.YtdcjhfmkkcakhaaCnt
namespace Go.Proofs.Ytdcjhfmkkcakhaa
open Go.ChangeShapes Go.WideShapes Go.ChangeAt Go.RowKit Go.Deep
set_option linter.unusedVariables false

def sk0 : List Nat := [1]
def sk1 : List Nat := [3, 257]
def sk2 : List Nat := [7, 259, 515, 769, 770, 65793]
def sk3 : List Nat := [15, 263, 519, 771, 774, 1031, 1539, 1793, 1794, 1796, 65795, 66305, 66306, 131587, 131841, 131842, 196865, 197122, 16843009]
def sk4 : List Nat := [31, 271, 527, 775, 782, 1039, 1287, 1543, 1795, 1797, 1798, 1804, 2063, 3079, 3587, 3841, 3842, 3844, 3848, 65799, 66307, 66310, 67329, 67330, 67332, 131591, 131843, 131846, 132611, 132865, 132866, 132868, 196867, 197123, 197126, 197377, 197378, 198146, 198148, 263175, 263683, 263937, 263938, 263940, 393731, 393985, 393986, 459009, 459266, 459780, 16843011, 16843521, 16843522, 16974081, 16974338, 33686019, 33686273, 33686274, 33751297, 33751554, 50397441, 50463234, 4311810305]
def shKeys : List Nat := [1, 3, 7, 15, 31, 257, 259, 263, 271, 515, 519, 527, 769, 770, 771, 774, 775, 782, 1031, 1039, 1287, 1539, 1543, 1793, 1794, 1795, 1796, 1797, 1798, 1804, 2063, 3079, 3587, 3841, 3842, 3844, 3848, 65793, 65795, 65799, 66305, 66306, 66307, 66310, 67329, 67330, 67332, 131587, 131591, 131841, 131842, 131843, 131846, 132611, 132865, 132866, 132868, 196865, 196867, 197122, 197123, 197126, 197377, 197378, 198146, 198148, 263175, 263683, 263937, 263938, 263940, 393731, 393985, 393986, 459009, 459266, 459780, 16843009, 16843011, 16843521, 16843522, 16974081, 16974338, 33686019, 33686273, 33686274, 33751297, 33751554, 50397441, 50463234, 4311810305]
def skS (k : Nat) : List Nat := if k = 0 then sk0 else if k = 1 then sk1 else if k = 2 then sk2 else if k = 3 then sk3 else if k = 4 then sk4 else []
def memN (q : Nat) (l : List Nat) : Bool := l.any fun x => Nat.beq x q
theorem memN_mem {q : Nat} {l : List Nat} (h : memN q l = true) : q ∈ l := by
  obtain ⟨x, hx, h2⟩ := List.any_eq_true.1 h
  rw [← Nat.eq_of_beq_eq_true h2]; exact hx
theorem mem_memN {q : Nat} {l : List Nat} (h : q ∈ l) : memN q l = true := List.any_eq_true.2 ⟨q, h, Nat.beq_refl q⟩
def dirs : List Cl := [(1, 0), (-1, 0), (0, 1), (0, -1)]
/-- the shapes that a shape leads to -/
def nextOk (k q : Nat) : Bool := (cellsBy q.testBit 64).all fun c => dirs.all fun e => decide ((c.1 + e.1, c.2 + e.2) ∈ cellsBy q.testBit 64) || (memN (setL (fitL (cellsBy q.testBit 64 ++ [(c.1 + e.1, c.2 + e.2)]))) (skS (k + 1)) && (fitL (cellsBy q.testBit 64 ++ [(c.1 + e.1, c.2 + e.2)])).all fun c => cellOk c.1 c.2)
set_option maxRecDepth 100000 in
theorem sk_next0 : (sk0.all (nextOk 0)) = true := by decide +kernel
set_option maxRecDepth 100000 in
theorem sk_next1 : (sk1.all (nextOk 1)) = true := by decide +kernel
set_option maxRecDepth 100000 in
theorem sk_next2 : (sk2.all (nextOk 2)) = true := by decide +kernel
set_option maxRecDepth 100000 in
theorem sk_next3 : (sk3.all (nextOk 3)) = true := by decide +kernel
theorem sk_next {k q : Nat} (hk : k < 4) (hq : q ∈ skS k) : nextOk k q = true := by
  have h4 : k = 0 ∨ k = 1 ∨ k = 2 ∨ k = 3 := by omega
  rcases h4 with rfl | rfl | rfl | rfl
  · exact List.all_eq_true.1 sk_next0 q hq
  · exact List.all_eq_true.1 sk_next1 q hq
  · exact List.all_eq_true.1 sk_next2 q hq
  · exact List.all_eq_true.1 sk_next3 q hq
/-- A list of cells grown from (3, 3) cell by cell. -/
def Grown (l : List Cl) : Prop := l.Nodup ∧ (∀ c ∈ l, cellOk c.1 c.2 = true) ∧ (∀ c ∈ fitL l, cellOk c.1 c.2 = true) ∧ ∃ k, l.length = k + 1 ∧ setL (fitL l) ∈ skS k
theorem fit_one : fitL [((3 : Int), (3 : Int))] = [(0, 0)] := by decide +kernel
theorem grown_one : Grown [((3 : Int), (3 : Int))] := by
  refine ⟨by simp, fun c hc => ?_, fun c hc => ?_, 0, rfl, ?_⟩
  · simp at hc; subst hc; rfl
  · rw [fit_one] at hc; simp at hc; subst hc; rfl
  · rw [fit_one]; decide +kernel
theorem nbr_dir {x y a b : Int} (h : nbr x y a b = true) : ∃ e ∈ dirs, a = x + e.1 ∧ b = y + e.2 := by
  unfold nbr at h
  simp only [Bool.and_eq_true, decide_eq_true_eq] at h
  obtain ⟨⟨h1, h2⟩, h3⟩ := h
  have r1 := cellOk_iff.1 h1
  have r2 := cellOk_iff.1 h2
  obtain ⟨s, hs⟩ : ∃ s, s = x - a := ⟨_, rfl⟩
  obtain ⟨t, ht⟩ : ∃ t, t = y - b := ⟨_, rfl⟩
  rw [← hs, ← ht] at h3
  have a1 : -7 ≤ s ∧ s ≤ 7 := by omega
  have a2 : -7 ≤ t ∧ t ≤ 7 := by omega
  have key : (s = 0 ∧ (t = 1 ∨ t = -1)) ∨ (t = 0 ∧ (s = 1 ∨ s = -1)) := by
    have c1 : s = -7 ∨ s = -6 ∨ s = -5 ∨ s = -4 ∨ s = -3 ∨ s = -2 ∨ s = -1 ∨ s = 0 ∨ s = 1 ∨ s = 2 ∨ s = 3 ∨ s = 4 ∨ s = 5 ∨ s = 6 ∨ s = 7 := by omega
    have c2 : t = -7 ∨ t = -6 ∨ t = -5 ∨ t = -4 ∨ t = -3 ∨ t = -2 ∨ t = -1 ∨ t = 0 ∨ t = 1 ∨ t = 2 ∨ t = 3 ∨ t = 4 ∨ t = 5 ∨ t = 6 ∨ t = 7 := by omega
    have hsq : 0 ≤ s * s ∧ 0 ≤ t * t := ⟨by rcases c1 with e | e | e | e | e | e | e | e | e | e | e | e | e | e | e <;> subst e <;> decide, by rcases c2 with e | e | e | e | e | e | e | e | e | e | e | e | e | e | e <;> subst e <;> decide⟩
    have s1 : s = 0 ∨ s = 1 ∨ s = -1 := by
      have : s * s ≤ 1 := by omega
      rcases c1 with e | e | e | e | e | e | e | e | e | e | e | e | e | e | e <;> subst e <;> first | omega | exact absurd this (by decide)
    have t1 : t = 0 ∨ t = 1 ∨ t = -1 := by
      have : t * t ≤ 1 := by omega
      rcases c2 with e | e | e | e | e | e | e | e | e | e | e | e | e | e | e <;> subst e <;> first | omega | exact absurd this (by decide)
    rcases s1 with e | e | e <;> rcases t1 with f | f | f <;> subst e <;> subst f <;> first | omega | exact absurd h3 (by decide)
  rcases key with ⟨k1, k2 | k2⟩ | ⟨k1, k2 | k2⟩
  · exact ⟨(0, -1), by simp [dirs], by dsimp only; omega, by dsimp only; omega⟩
  · exact ⟨(0, 1), by simp [dirs], by dsimp only; omega, by dsimp only; omega⟩
  · exact ⟨(-1, 0), by simp [dirs], by dsimp only; omega, by dsimp only; omega⟩
  · exact ⟨(1, 0), by simp [dirs], by dsimp only; omega, by dsimp only; omega⟩
theorem grown_more {l : List Cl} {c d : Cl} (h : Grown l) (hl : l.length ≤ 4) (hc : c ∈ l) (hd : d ∈ nbrs c.1 c.2) (hn : d ∉ l) : Grown (l ++ [d]) := by
  obtain ⟨h1, h2, h5, k, h3, h4⟩ := h
  have hdo := nbrs_ok hd
  have hco := h2 c hc
  have hnb : nbr c.1 c.2 d.1 d.2 = true := by
    unfold nbrs at hd
    rw [mem_cellsBy] at hd
    have := hd.2
    rwa [of_idxN hdo] at this
  obtain ⟨e, he, e1, e2⟩ := nbr_dir hnb
  have hnd : (l ++ [d]).Nodup := by
    rw [List.nodup_append]
    refine ⟨h1, by simp, fun a ha b hb => ?_⟩
    simp at hb; subst hb
    rintro rfl
    exact hn ha
  have hst : Strict (fitL l) := strict_srt h5 (fitTo_srt h1 _ _)
  have hcl := hst.cells
  have hm : ∀ a : Cl, a ∈ l ↔ (a.1 - lowX l, a.2 - lowY l) ∈ fitL l := fun a => by
    unfold fitL
    rw [fitTo_mem]
    unfold moveC
    constructor
    · intro ha; exact ⟨a, ha, rfl⟩
    · rintro ⟨b, hb, hb2⟩
      rw [Prod.mk.injEq] at hb2
      have : b = a := Prod.ext (by omega) (by omega)
      rw [← this]; exact hb
  have hk : k < 4 := by omega
  have hq := sk_next hk h4
  unfold nextOk at hq
  rw [hcl] at hq
  have hq2 := List.all_eq_true.1 (List.all_eq_true.1 hq _ ((hm c).1 hc)) e he
  dsimp only at hq2
  have ed : ((c.1 - lowX l + e.1, c.2 - lowY l + e.2) : Cl) = (d.1 - lowX l, d.2 - lowY l) := Prod.ext (by dsimp only; omega) (by dsimp only; omega)
  rw [ed] at hq2
  have hnf : (d.1 - lowX l, d.2 - lowY l) ∉ fitL l := fun hx => hn ((hm d).2 hx)
  rw [decide_eq_false hnf, Bool.false_or, Bool.and_eq_true] at hq2
  have hsame : fitL (fitL l ++ [(d.1 - lowX l, d.2 - lowY l)]) = fitL (l ++ [d]) := by
    refine fit_same ?_ hnd (by simp) (lowX l) (lowY l) fun x y => ?_
    · rw [List.nodup_append]
      refine ⟨fitL_nodup h1, by simp, fun a ha b hb => ?_⟩
      simp at hb; subst hb
      rintro rfl
      exact hnf ha
    · rw [List.mem_append, List.mem_append, hm (x, y), List.mem_singleton, List.mem_singleton]
      dsimp only
      constructor
      · rintro (hx | hx)
        · exact .inl hx
        · exact .inr (by rw [← hx])
      · rintro (hx | hx)
        · exact .inl hx
        · rw [Prod.mk.injEq] at hx
          exact .inr (Prod.ext (by dsimp only; omega) (by dsimp only; omega))
  rw [hsame] at hq2
  refine ⟨hnd, ?_, fun a ha => List.all_eq_true.1 hq2.2 a ha, k + 1, by simp [h3], memN_mem hq2.1⟩
  intro a ha
  rcases List.mem_append.1 ha with ha | ha
  · exact h2 a ha
  · simp at ha; subst ha; exact hdo
def mvC (c : Cl) : Cl := (c.1 + 2, c.2 + 3)
/-- All that the law asks of a shape. -/
def shpB (s : List Cl) : Bool := shapeOk s && (decide (s ∈ turnsR s) && ((decide ((turnsR s).length = 1) || (decide ((turnsR s).length = 2) || (decide ((turnsR s).length = 4) || decide ((turnsR s).length = 8)))) && (decide (symR s = decide ((turnsR s).length < 8)) && (fitShape (s.map mvC) && (decide (fitShapeL (s.map mvC) = s) && ((turnsR s).all fun t => shapeOk t && (decide (t.length = s.length) && decide ((turnsR t).length = (turnsR s).length))))))))
set_option maxRecDepth 100000 in
theorem keys_ok0 : (sk0.all fun q => shpB (cellsBy q.testBit 64)) = true := by decide +kernel
set_option maxRecDepth 100000 in
theorem keys_ok1 : (sk1.all fun q => shpB (cellsBy q.testBit 64)) = true := by decide +kernel
set_option maxRecDepth 100000 in
theorem keys_ok2 : (sk2.all fun q => shpB (cellsBy q.testBit 64)) = true := by decide +kernel
set_option maxRecDepth 100000 in
theorem keys_ok3_0 : (([15, 263, 519, 771, 774, 1031, 1539] : List Nat).all fun q => shpB (cellsBy q.testBit 64)) = true := by decide +kernel
set_option maxRecDepth 100000 in
theorem keys_ok3_1 : (([1793, 1794, 1796, 65795, 66305, 66306, 131587] : List Nat).all fun q => shpB (cellsBy q.testBit 64)) = true := by decide +kernel
set_option maxRecDepth 100000 in
theorem keys_ok3_2 : (([131841, 131842, 196865, 197122, 16843009] : List Nat).all fun q => shpB (cellsBy q.testBit 64)) = true := by decide +kernel
theorem keys_ok3 : (sk3.all fun q => shpB (cellsBy q.testBit 64)) = true := by
  rw [show sk3 = ([15, 263, 519, 771, 774, 1031, 1539] : List Nat) ++ [1793, 1794, 1796, 65795, 66305, 66306, 131587] ++ [131841, 131842, 196865, 197122, 16843009] from rfl]
  simp only [List.all_append, keys_ok3_0, keys_ok3_1, keys_ok3_2, Bool.and_self]
set_option maxRecDepth 100000 in
theorem keys_ok4_0 : (([31, 271, 527, 775, 782, 1039, 1287] : List Nat).all fun q => shpB (cellsBy q.testBit 64)) = true := by decide +kernel
set_option maxRecDepth 100000 in
theorem keys_ok4_1 : (([1543, 1795, 1797, 1798, 1804, 2063, 3079] : List Nat).all fun q => shpB (cellsBy q.testBit 64)) = true := by decide +kernel
set_option maxRecDepth 100000 in
theorem keys_ok4_2 : (([3587, 3841, 3842, 3844, 3848, 65799, 66307] : List Nat).all fun q => shpB (cellsBy q.testBit 64)) = true := by decide +kernel
set_option maxRecDepth 100000 in
theorem keys_ok4_3 : (([66310, 67329, 67330, 67332, 131591, 131843, 131846] : List Nat).all fun q => shpB (cellsBy q.testBit 64)) = true := by decide +kernel
set_option maxRecDepth 100000 in
theorem keys_ok4_4 : (([132611, 132865, 132866, 132868, 196867, 197123, 197126] : List Nat).all fun q => shpB (cellsBy q.testBit 64)) = true := by decide +kernel
set_option maxRecDepth 100000 in
theorem keys_ok4_5 : (([197377, 197378, 198146, 198148, 263175, 263683, 263937] : List Nat).all fun q => shpB (cellsBy q.testBit 64)) = true := by decide +kernel
set_option maxRecDepth 100000 in
theorem keys_ok4_6 : (([263938, 263940, 393731, 393985, 393986, 459009, 459266] : List Nat).all fun q => shpB (cellsBy q.testBit 64)) = true := by decide +kernel
set_option maxRecDepth 100000 in
theorem keys_ok4_7 : (([459780, 16843011, 16843521, 16843522, 16974081, 16974338, 33686019] : List Nat).all fun q => shpB (cellsBy q.testBit 64)) = true := by decide +kernel
set_option maxRecDepth 100000 in
theorem keys_ok4_8 : (([33686273, 33686274, 33751297, 33751554, 50397441, 50463234, 4311810305] : List Nat).all fun q => shpB (cellsBy q.testBit 64)) = true := by decide +kernel
theorem keys_ok4 : (sk4.all fun q => shpB (cellsBy q.testBit 64)) = true := by
  rw [show sk4 = ([31, 271, 527, 775, 782, 1039, 1287] : List Nat) ++ [1543, 1795, 1797, 1798, 1804, 2063, 3079] ++ [3587, 3841, 3842, 3844, 3848, 65799, 66307] ++ [66310, 67329, 67330, 67332, 131591, 131843, 131846] ++ [132611, 132865, 132866, 132868, 196867, 197123, 197126] ++ [197377, 197378, 198146, 198148, 263175, 263683, 263937] ++ [263938, 263940, 393731, 393985, 393986, 459009, 459266] ++ [459780, 16843011, 16843521, 16843522, 16974081, 16974338, 33686019] ++ [33686273, 33686274, 33751297, 33751554, 50397441, 50463234, 4311810305] from rfl]
  simp only [List.all_append, keys_ok4_0, keys_ok4_1, keys_ok4_2, keys_ok4_3, keys_ok4_4, keys_ok4_5, keys_ok4_6, keys_ok4_7, keys_ok4_8, Bool.and_self]
theorem keys_ok {k q : Nat} (hk : k < 5) (hq : q ∈ skS k) : shpB (cellsBy q.testBit 64) = true := by
  have h4 : k = 0 ∨ k = 1 ∨ k = 2 ∨ k = 3 ∨ k = 4 := by omega
  rcases h4 with rfl | rfl | rfl | rfl | rfl
  · exact List.all_eq_true.1 keys_ok0 q hq
  · exact List.all_eq_true.1 keys_ok1 q hq
  · exact List.all_eq_true.1 keys_ok2 q hq
  · exact List.all_eq_true.1 keys_ok3 q hq
  · exact List.all_eq_true.1 keys_ok4 q hq
/-- the shape that is drawn -/
theorem grown_shape {l : List Cl} (h : Grown l) (hl : l.length ≤ 5) : shpB (fitL l) = true := by
  obtain ⟨h1, h2, h5, k, h3, h4⟩ := h
  have hs : Strict (fitL l) := strict_srt h5 (fitTo_srt h1 _ _)
  have h6 := keys_ok (by omega) h4
  rwa [hs.cells] at h6
/-! ### two cells -/
def domS : List Cl := [((0 : Int), (0 : Int)), ((1 : Int), (0 : Int))]
theorem dom_ok : shapeOk domS = true := by decide +kernel
theorem dom_tiles : ∀ q : Fin 64, tilesS (turnsR domS) q.val = tilesL 2 q.val := by decide +kernel
theorem covs_dom : ∀ (f s : Nat), s < 18446744073709551616 → covs (tilesS (turnsR domS)) f s = covs (tilesL 2) f s := by
  intro f
  induction f with
  | zero => intro s _; rfl
  | succ f ih =>
    intro s hs
    by_cases h0 : s = 0
    · subst h0; rw [covs_zero, covs_zero]
    · rw [covs_succ _ _ h0, covs_succ _ _ h0, dom_tiles ⟨lowb s, (lowb_spec hs h0).1⟩]
      unfold covSum
      congr 1
      refine List.map_congr_left fun o _ => ?_
      dsimp only
      rw [ih _ (bdiff_lt hs)]
theorem dom_count {rs : List Int} (hreg : regOk rs = true) (h : (regCells rs).length ≤ 20) : countShape rs domS = cntT rs := by
  have hR := regSet_lt hreg
  rw [countShape_yes hreg dom_ok h, covs_dom _ _ hR, cntT, if_pos hreg]
  have h1 := covs_le 64 _ hR
  have h2 : 2 ^ (card (regSet rs) / 2) ≤ 2 ^ 32 := Nat.pow_le_pow_right (by decide) (by have := card_le (regSet rs); omega)
  have h3 : ((2 ^ (card (regSet rs) / 2) : Nat) : Int) ≤ ((4294967296 : Nat) : Int) := Int.ofNat_le.2 h2
  exact IntWalk.wrap64_in _ (by omega)
end Go.Proofs.Ytdcjhfmkkcakhaa

/-
  The arguments of the statements opened: an argument that can be read as data is a list of integers, of cells, of dominoes, of corners, a region, a pattern, a table of rows; no statement is proved here; no condition.
-/
import Derived.Test.YtdcjhfmkkcakhaaBase
import Derived.Lib.SmallJoins
namespace Go.Proofs.Ytdcjhfmkkcakhaa
open Go.ChangeShapes Go.WideShapes Go.ChangeAt Go.RowKit Go.Deep Go.Joins
set_option linter.unusedVariables false

theorem addr_of_cell {w : World} {a : Addr} {v : Value} (h : w.cell? a = some v) : ∃ b off, a = ⟨b, off, none⟩ ∧ b < w.heap.size := by
  have hl := World.block_lt_of_cell? w a h
  obtain ⟨b, off, spot⟩ := a
  cases spot with
  | none => exact ⟨b, off, rfl, hl⟩
  | some s => simp [World.cell?] at h; split at h <;> simp at h

theorem Rd.mk_ {w : World} {a : Addr} {n sz : Nat} {xs : List Value} (hsz : 0 < sz) (hlen : xs.length = n * sz)
    (hc : ∀ j u, xs[j]? = some u → w.cell? (a.add j) = some u) : Rd w sz (some a) n xs := by
  refine ⟨hlen, fun hn => ?_⟩
  have hp : 0 < xs.length := by rw [hlen]; exact Nat.mul_pos hn hsz
  have h0 := hc 0 _ (List.getElem?_eq_getElem hp)
  have e0 : a.add 0 = a := by simp [Addr.add]
  rw [e0] at h0
  obtain ⟨b, off, rfl, hl⟩ := addr_of_cell h0
  refine ⟨b, off, rfl, hl, fun j u hu => ?_⟩
  have := hc j u hu
  rwa [Addr.add_lit] at this

theorem list_of {α : Type} (p : Nat → α → Prop) : ∀ (n : Nat), (∀ i, i < n → ∃ x, p i x) → ∃ l : List α, l.length = n ∧ ∀ i, i < n → ∃ x, l[i]? = some x ∧ p i x
  | 0, _ => ⟨[], rfl, fun i hi => absurd hi (by omega)⟩
  | k + 1, h => by
    obtain ⟨l, h1, h2⟩ := list_of p k (fun i hi => h i (by omega))
    obtain ⟨x, h3⟩ := h k (by omega)
    refine ⟨l ++ [x], by simp [h1], fun i hi => ?_⟩
    by_cases e : i = k
    · subst e
      exact ⟨x, by simp [← h1], h3⟩
    · obtain ⟨y, h5, h6⟩ := h2 i (by omega)
      exact ⟨y, by rw [List.getElem?_append_left (by omega)]; exact h5, h6⟩
section
variable {H : Type} {enc : TypeId × Value → H} {P : Program} {w : World} {base : Nat} {spare : Nat → Bool} {held : Bool}

theorem op_int {r : Reach} {b0 : Nat} {t : TypeId} {v : Value} {d : DataW H} {p : List MemPlace} (ht : P.underlying t = some (.int .i64)) (hv : Value.okWide P w r b0 t v)
    (h : DataW.Trod enc P w base spare held t v d p) : ∃ x, v = .int .i64 x ∧ I64 x := by
  obtain ⟨x, e, _, _, hw⟩ := open_int ht hv h
  exact ⟨x, e, .of_wf hw⟩

theorem op_ints' {t e : TypeId} {fuel : Nat} {cs : List Value} {y : DataW H × List MemPlace} (ht : P.underlying t = some (.slice e)) (he : P.underlying e = some (.int .i64)) (hc : P.cellsOf e = 1)
    (h : DataW.trod enc P w base spare held fuel t cs = some y) : ∃ A c l, cs = [.slice A (List.length l) c] ∧ RdI w A l ∧ List.length l ≤ maxLen := by
  rcases open_ints ht he hc h with ⟨hcs, _⟩ | ⟨a, len, cap, zs, hcs, _, hl, hcm, hz, _, hcell, hwz⟩
  · exact ⟨none, 0, [], hcs, ⟨Rd.none_, by simp⟩, Nat.zero_le _⟩
  · have hzl : len ≤ zs.length := by rw [hz]; split <;> omega
    have hlen : (zs.take len).length = len := by rw [List.length_take]; omega
    refine ⟨some a, cap, zs.take len, by rw [hlen]; exact hcs, ⟨Rd.mk_ (by decide) (by simp) (fun j u hu => ?_), fun x hx => .of_wf (hwz x (List.mem_of_mem_take hx))⟩, by rw [hlen]; omega⟩
    simp only [List.getElem?_map, List.getElem?_take] at hu
    split at hu
    · rename_i hj
      have := hcell j (by omega)
      have e1 : zs[j]? = some zs[j] := List.getElem?_eq_getElem (by omega)
      rw [e1] at hu
      simp [cI] at hu
      rw [this, ← hu, List.getD_eq_getElem?_getD, e1]; rfl
    · cases hu

theorem op_ints {r : Reach} {b0 : Nat} {t e : TypeId} {v : Value} {d : DataW H} {p : List MemPlace} (ht : P.underlying t = some (.slice e)) (he : P.underlying e = some (.int .i64)) (hc : P.cellsOf e = 1)
    (hv : Value.okWide P w r b0 t v) (h : DataW.Trod enc P w base spare held t v d p) : ∃ A c l, v = .slice A (List.length l) c ∧ RdI w A l ∧ List.length l ≤ maxLen := by
  obtain ⟨a, n, c, rfl⟩ := okWide_slice ht hv
  obtain ⟨fuel, hf⟩ := h
  obtain ⟨A, c', l, e1, h1⟩ := op_ints' ht he hc hf
  simp [Value.cells] at e1
  obtain ⟨rfl, rfl, rfl⟩ := e1
  exact ⟨_, _, l, rfl, h1⟩

/-- A slice of structs whose cells are told by 'f'. -/
theorem op_structs {α : Type} (f : α → List Value) (good : α → Prop) (sz : Nat) (hsz : 0 < sz) (hf : ∀ a, (f a).length = sz)
    {r : Reach} {b0 : Nat} {t e : TypeId} {v : Value} {d : DataW H} {p : List MemPlace} (ht : P.underlying t = some (.slice e)) (hC : P.cellsOf e = sz)
    (each : ∀ (n : Nat) (cs : List Value) (y : DataW H × List MemPlace), DataW.trod enc P w base spare held n e cs = some y → cs.length = sz → ∃ a, cs = f a ∧ good a)
    (hv : Value.okWide P w r b0 t v) (h : DataW.Trod enc P w base spare held t v d p) :
    ∃ A c l, v = .slice A (List.length l) c ∧ (Rd w sz A (List.length l) (l.flatMap f) ∧ ∀ a ∈ l, good a) ∧ List.length l ≤ maxLen := by
  obtain ⟨a, n, c, rfl⟩ := okWide_slice ht hv
  obtain ⟨fuel, hf'⟩ := h
  rcases open_slice ht hf' with ⟨hcs, _⟩ | ⟨a, len, cap, m, n', D, Pl, hcs, _, hl, hcm, hmm, _, hi⟩
  · simp [Value.cells] at hcs
    obtain ⟨rfl, rfl, rfl⟩ := hcs
    exact ⟨none, 0, [], rfl, ⟨Rd.none_, by simp⟩, Nat.zero_le _⟩
  · simp [Value.cells] at hcs
    obtain ⟨rfl, rfl, rfl⟩ := hcs
    have hlm : n ≤ m := by rw [hmm]; split <;> omega
    have hex : ∀ i, i < n → ∃ x : α, good x ∧ ∀ j, j < sz → w.cell? (a.add (i * sz + j)) = (f x)[j]? := by
      intro i hin
      obtain ⟨cs', hc', ht'⟩ := hi i (by omega)
      obtain ⟨_, hlen, hat⟩ := World.cells?_some hc'
      rw [hC] at hlen hat
      obtain ⟨x, rfl, hg⟩ := each _ _ _ ht' hlen
      refine ⟨x, hg, fun j hj => ?_⟩
      rw [← hat j hj, add_add]
    obtain ⟨l, hln, hlx⟩ := list_of (fun i x => good x ∧ ∀ j, j < sz → w.cell? (a.add (i * sz + j)) = (f x)[j]?) n hex
    subst hln
    refine ⟨some a, c, l, rfl, ⟨Rd.mk_ hsz ?_ (fun j u hu => ?_), fun x hx => ?_⟩, by omega⟩
    · exact flatMap_len f sz hf l
    · have hjl : j < (l.flatMap f).length := (List.getElem?_eq_some_iff.1 hu).1
      rw [flatMap_len f sz hf l] at hjl
      have hq : j / sz < l.length := Nat.div_lt_of_lt_mul (by rw [Nat.mul_comm]; exact hjl)
      obtain ⟨x, h1, _, h3⟩ := hlx (j / sz) hq
      have hr : j % sz < sz := Nat.mod_lt _ hsz
      have e := flatMap_get f sz hf l (j / sz) (j % sz) x h1 hr
      have ej : j / sz * sz + j % sz = j := by rw [Nat.mul_comm]; exact Nat.div_add_mod j sz
      rw [ej] at e
      have := h3 (j % sz) hr
      rw [ej] at this
      rw [this, ← e, hu]
    · obtain ⟨i, hi', rfl⟩ := List.mem_iff_getElem.1 hx
      obtain ⟨x, h1, h2, _⟩ := hlx i hi'
      rw [List.getElem?_eq_getElem hi'] at h1
      injection h1 with h1
      rw [h1]; exact h2

theorem each_cell {e : TypeId} {f0 f1 : Field} (hs : P.underlying e = some (.struct #[f0, f1])) (hone : oneCellFields P #[f0, f1] = true)
    (t0 : P.underlying f0.type = some (.int .i64)) (t1 : P.underlying f1.type = some (.int .i64)) (n : Nat) (cs : List Value) (y : DataW H × List MemPlace)
    (h : DataW.trod enc P w base spare held n e cs = some y) (hl : cs.length = 2) : ∃ a : Int × Int, cs = cC a ∧ (I64 a.1 ∧ I64 a.2) := by
  obtain ⟨xs, n', _, _, _, hxl, hf⟩ := DataW.trod_struct hs h
  obtain ⟨o0, k0⟩ := hone_of hone 0 f0 rfl
  obtain ⟨o1, k1⟩ := hone_of hone 1 f1 rfl
  match cs, hl, xs, hxl with
  | [c0, c1], _, [x0, x1], _ =>
    have h0 := hf 0 f0 rfl
    have h1 := hf 1 f1 rfl
    simp [o0, k0] at h0
    simp [o1, k1] at h1
    obtain ⟨a, e0, _, w0⟩ := DataW.trod_int t0 h0
    obtain ⟨b, e1, _, w1⟩ := DataW.trod_int t1 h1
    simp at e0 e1
    exact ⟨(a, b), by simp [cC, e0, e1], .of_wf w0, .of_wf w1⟩
theorem each_domino {e : TypeId} {f0 f1 f2 : Field} (hs : P.underlying e = some (.struct #[f0, f1, f2])) (hone : oneCellFields P #[f0, f1, f2] = true)
    (t0 : P.underlying f0.type = some (.int .i64)) (t1 : P.underlying f1.type = some (.int .i64)) (t2 : P.underlying f2.type = some .bool) (n : Nat) (cs : List Value) (y : DataW H × List MemPlace)
    (h : DataW.trod enc P w base spare held n e cs = some y) (hl : cs.length = 3) : ∃ a : Int × Int × Bool, cs = cD a ∧ (I64 a.1 ∧ I64 a.2.1) := by
  obtain ⟨xs, n', _, _, _, hxl, hf⟩ := DataW.trod_struct hs h
  obtain ⟨o0, k0⟩ := hone_of hone 0 f0 rfl
  obtain ⟨o1, k1⟩ := hone_of hone 1 f1 rfl
  obtain ⟨o2, k2⟩ := hone_of hone 2 f2 rfl
  match cs, hl, xs, hxl with
  | [c0, c1, c2], _, [x0, x1, x2], _ =>
    have h0 := hf 0 f0 rfl
    have h1 := hf 1 f1 rfl
    have h2 := hf 2 f2 rfl
    simp [o0, k0] at h0
    simp [o1, k1] at h1
    simp [o2, k2] at h2
    obtain ⟨a, e0, _, w0⟩ := DataW.trod_int t0 h0
    obtain ⟨b, e1, _, w1⟩ := DataW.trod_int t1 h1
    obtain ⟨c, e2, _⟩ := DataW.trod_bool t2 h2
    simp at e0 e1 e2
    exact ⟨(a, b, c), by simp [cD, e0, e1, e2], .of_wf w0, .of_wf w1⟩
theorem each_corner {e : TypeId} {f0 f1 f2 : Field} (hs : P.underlying e = some (.struct #[f0, f1, f2])) (hone : oneCellFields P #[f0, f1, f2] = true)
    (t0 : P.underlying f0.type = some (.int .i64)) (t1 : P.underlying f1.type = some (.int .i64)) (t2 : P.underlying f2.type = some (.int .i64)) (n : Nat) (cs : List Value) (y : DataW H × List MemPlace)
    (h : DataW.trod enc P w base spare held n e cs = some y) (hl : cs.length = 3) : ∃ a : Int × Int × Int, cs = cT a ∧ (I64 a.1 ∧ I64 a.2.1 ∧ I64 a.2.2) := by
  obtain ⟨xs, n', _, _, _, hxl, hf⟩ := DataW.trod_struct hs h
  obtain ⟨o0, k0⟩ := hone_of hone 0 f0 rfl
  obtain ⟨o1, k1⟩ := hone_of hone 1 f1 rfl
  obtain ⟨o2, k2⟩ := hone_of hone 2 f2 rfl
  match cs, hl, xs, hxl with
  | [c0, c1, c2], _, [x0, x1, x2], _ =>
    have h0 := hf 0 f0 rfl
    have h1 := hf 1 f1 rfl
    have h2 := hf 2 f2 rfl
    simp [o0, k0] at h0
    simp [o1, k1] at h1
    simp [o2, k2] at h2
    obtain ⟨a, e0, _, w0⟩ := DataW.trod_int t0 h0
    obtain ⟨b, e1, _, w1⟩ := DataW.trod_int t1 h1
    obtain ⟨c, e2, _, w2⟩ := DataW.trod_int t2 h2
    simp at e0 e1 e2
    exact ⟨(a, b, c), by simp [cT, e0, e1, e2], .of_wf w0, .of_wf w1, .of_wf w2⟩

/-! ### structs by value -/
theorem op_cell {r : Reach} {b0 : Nat} {t : TypeId} {f0 f1 : Field} {v : Value} {d : DataW H} {p : List MemPlace} (hs : P.underlying t = some (.struct #[f0, f1])) (hone : oneCellFields P #[f0, f1] = true) (hC : P.cellsOf t = 2)
    (t0 : P.underlying f0.type = some (.int .i64)) (t1 : P.underlying f1.type = some (.int .i64))
    (hv : Value.okWide P w r b0 t v) (h : DataW.Trod enc P w base spare held t v d p) : ∃ x y, v = .agg #[.int .i64 x, .int .i64 y] ∧ I64 x ∧ I64 y := by
  obtain ⟨v0, v1, y0, y1, n, rfl, _, _, h0, h1⟩ := open_agg2 hs hone hC hv h
  obtain ⟨a, e0, _, w0⟩ := DataW.trod_int t0 h0
  obtain ⟨b, e1, _, w1⟩ := DataW.trod_int t1 h1
  simp at e0 e1
  exact ⟨a, b, by rw [e0, e1], .of_wf w0, .of_wf w1⟩
theorem op_domino {r : Reach} {b0 : Nat} {t : TypeId} {f0 f1 f2 : Field} {v : Value} {d : DataW H} {p : List MemPlace} (hs : P.underlying t = some (.struct #[f0, f1, f2])) (hone : oneCellFields P #[f0, f1, f2] = true) (hC : P.cellsOf t = 3)
    (t0 : P.underlying f0.type = some (.int .i64)) (t1 : P.underlying f1.type = some (.int .i64)) (t2 : P.underlying f2.type = some .bool)
    (hv : Value.okWide P w r b0 t v) (h : DataW.Trod enc P w base spare held t v d p) : ∃ x y z, v = .agg #[.int .i64 x, .int .i64 y, .bool z] ∧ I64 x ∧ I64 y := by
  obtain ⟨v0, v1, v2, y0, y1, y2, n, rfl, _, _, h0, h1, h2⟩ := open_agg3 hs hone hC hv h
  obtain ⟨a, e0, _, w0⟩ := DataW.trod_int t0 h0
  obtain ⟨b, e1, _, w1⟩ := DataW.trod_int t1 h1
  obtain ⟨c, e2, _⟩ := DataW.trod_bool t2 h2
  simp at e0 e1 e2
  exact ⟨a, b, c, by rw [e0, e1, e2], .of_wf w0, .of_wf w1⟩
theorem op_corner {r : Reach} {b0 : Nat} {t : TypeId} {f0 f1 f2 : Field} {v : Value} {d : DataW H} {p : List MemPlace} (hs : P.underlying t = some (.struct #[f0, f1, f2])) (hone : oneCellFields P #[f0, f1, f2] = true) (hC : P.cellsOf t = 3)
    (t0 : P.underlying f0.type = some (.int .i64)) (t1 : P.underlying f1.type = some (.int .i64)) (t2 : P.underlying f2.type = some (.int .i64))
    (hv : Value.okWide P w r b0 t v) (h : DataW.Trod enc P w base spare held t v d p) : ∃ x y z, v = .agg #[.int .i64 x, .int .i64 y, .int .i64 z] ∧ I64 x ∧ I64 y ∧ I64 z := by
  obtain ⟨v0, v1, v2, y0, y1, y2, n, rfl, _, _, h0, h1, h2⟩ := open_agg3 hs hone hC hv h
  obtain ⟨a, e0, _, w0⟩ := DataW.trod_int t0 h0
  obtain ⟨b, e1, _, w1⟩ := DataW.trod_int t1 h1
  obtain ⟨c, e2, _, w2⟩ := DataW.trod_int t2 h2
  simp at e0 e1 e2
  exact ⟨a, b, c, by rw [e0, e1, e2], .of_wf w0, .of_wf w1, .of_wf w2⟩
theorem op_prices {r : Reach} {b0 : Nat} {t : TypeId} {f0 f1 f2 f3 : Field} {v : Value} {d : DataW H} {p : List MemPlace} (hs : P.underlying t = some (.struct #[f0, f1, f2, f3])) (hone : oneCellFields P #[f0, f1, f2, f3] = true) (hC : P.cellsOf t = 4)
    (t0 : P.underlying f0.type = some (.int .i64)) (t1 : P.underlying f1.type = some (.int .i64)) (t2 : P.underlying f2.type = some (.int .i64)) (t3 : P.underlying f3.type = some (.int .i64))
    (hv : Value.okWide P w r b0 t v) (h : DataW.Trod enc P w base spare held t v d p) : ∃ x y z u, v = .agg #[.int .i64 x, .int .i64 y, .int .i64 z, .int .i64 u] ∧ I64 x ∧ I64 y ∧ I64 z ∧ I64 u := by
  obtain ⟨v0, v1, v2, v3, y0, y1, y2, y3, n, rfl, _, _, h0, h1, h2, h3⟩ := open_agg4 hs hone hC hv h
  obtain ⟨a, e0, _, w0⟩ := DataW.trod_int t0 h0
  obtain ⟨b, e1, _, w1⟩ := DataW.trod_int t1 h1
  obtain ⟨c, e2, _, w2⟩ := DataW.trod_int t2 h2
  obtain ⟨d, e3, _, w3⟩ := DataW.trod_int t3 h3
  simp at e0 e1 e2 e3
  exact ⟨a, b, c, d, by rw [e0, e1, e2, e3], .of_wf w0, .of_wf w1, .of_wf w2, .of_wf w3⟩
theorem op_pattern {r : Reach} {b0 : Nat} {t te : TypeId} {f0 f1 f2 f3 : Field} {v : Value} {d : DataW H} {p : List MemPlace} (hs : P.underlying t = some (.struct #[f0, f1, f2, f3])) (hone : oneCellFields P #[f0, f1, f2, f3] = true) (hC : P.cellsOf t = 4)
    (t0 : P.underlying f0.type = some (.int .i64)) (t1 : P.underlying f1.type = some (.int .i64)) (t2 : P.underlying f2.type = some (.int .i64)) (t3 : P.underlying f3.type = some (.slice te)) (he : P.underlying te = some (.int .i64)) (hce : P.cellsOf te = 1)
    (hv : Value.okWide P w r b0 t v) (h : DataW.Trod enc P w base spare held t v d p) : ∃ x y z A c l, v = .agg #[.int .i64 x, .int .i64 y, .int .i64 z, .slice A (List.length l) c] ∧ I64 x ∧ I64 y ∧ I64 z ∧ RdI w A l ∧ List.length l ≤ maxLen := by
  obtain ⟨v0, v1, v2, v3, y0, y1, y2, y3, n, rfl, _, _, h0, h1, h2, h3⟩ := open_agg4 hs hone hC hv h
  obtain ⟨a, e0, _, w0⟩ := DataW.trod_int t0 h0
  obtain ⟨b, e1, _, w1⟩ := DataW.trod_int t1 h1
  obtain ⟨c, e2, _, w2⟩ := DataW.trod_int t2 h2
  obtain ⟨A, cp, l, e3, h4⟩ := op_ints' t3 he hce h3
  simp at e0 e1 e2 e3
  exact ⟨a, b, c, A, cp, l, by rw [e0, e1, e2, e3], .of_wf w0, .of_wf w1, .of_wf w2, h4⟩
theorem op_region {r : Reach} {b0 : Nat} {t te : TypeId} {f0 : Field} {v : Value} {d : DataW H} {p : List MemPlace} (hs : P.underlying t = some (.struct #[f0])) (hone : oneCellFields P #[f0] = true) (hC : P.cellsOf t = 1)
    (t0 : P.underlying f0.type = some (.slice te)) (he : P.underlying te = some (.int .i64)) (hce : P.cellsOf te = 1)
    (hv : Value.okWide P w r b0 t v) (h : DataW.Trod enc P w base spare held t v d p) : ∃ A c l, v = .agg #[.slice A (List.length l) c] ∧ RdI w A l ∧ List.length l ≤ maxLen := by
  obtain ⟨cs, rfl, hsz⟩ := okWide_struct hs hv
  obtain ⟨fuel, hf⟩ := h
  obtain ⟨xs, n, _, _, _, hxl, hg⟩ := DataW.trod_struct hs hf
  obtain ⟨o0, k0⟩ := hone_of hone 0 f0 rfl
  obtain ⟨l⟩ := cs
  match l, hsz.trans hC, xs, hxl with
  | [c0], _, [x0], _ =>
    have h0 := hg 0 f0 rfl
    simp [Value.cells, o0, k0] at h0
    obtain ⟨A, cp, l, e3, h4⟩ := op_ints' t0 he hce h0
    simp at e3
    exact ⟨A, cp, l, by rw [e3], h4⟩
end
end Go.Proofs.Ytdcjhfmkkcakhaa

/-
  Contracts of the functions on shapes (indices, corner, ShapeOk): what each returns, as a function of its arguments; nothing that was there is written; at most 1048576 cells.
-/
import Derived.Test.YtdcjhfmkkcakhaaReach
import Derived.Test.YtdcjhfmkkcakhaaRow
import Derived.StillTailTactics
namespace Go.Proofs.Ytdcjhfmkkcakhaa
open Go.ChangeShapes Go.WideShapes Go.ChangeAt Go.RowKit Go.Deep
set_option linter.unusedVariables false

def idxI (c : Cl) : Int := cellIdx c.1 c.2
def indicesL (l : List Cl) : List Int := l.map idxI
theorem idxI_rng (c : Cl) : -1 ≤ idxI c ∧ idxI c ≤ 63 := by
  unfold idxI cellIdx
  split
  · rename_i h
    have := cellOk_iff.1 h
    omega
  · omega
theorem idxI_ok {c : Cl} (h : cellOk c.1 c.2 = true) : idxI c = (idxN c : Int) := by
  have := cellOk_iff.1 h
  unfold idxI cellIdx idxN
  rw [if_pos h]; omega
theorem idxI_nonneg {c : Cl} (h : 0 ≤ idxI c) : cellOk c.1 c.2 = true := by
  unfold idxI cellIdx at h
  split at h
  · assumption
  · omega
theorem indicesL_len (l : List Cl) : (indicesL l).length = l.length := by simp [indicesL]
theorem indicesL_snoc {l : List Cl} {k : Nat} {x y : Int} (h : l[k]? = some (x, y)) : indicesL (l.take (k + 1)) = indicesL (l.take k) ++ [idxI (x, y)] := by
  rw [take_snoc_at h]; simp [indicesL]
set_option maxHeartbeats 1000000 in
theorem indices_any (A : Option Addr) (N c : Nat) (l : List Cl) (w : World) (hN : N = l.length) (hl : N ≤ 1048576) (hr : RdC w A l) :
    Calls Try.prog 155 #[.slice A N c] w fun e w' => ∃ v, e = .returned v ∧ OwI w.heap.size w' v (indicesL l) ∧ Below w.heap.size w w' := by
  have HN := Lib.hid hN
  have hr' := Lib.hid hr
  have ho := Lib.hid (OwI.new_ (B := w.heap.size) (w := w) (Nat.le_refl _))
  clear hN hr
  go_enter Try.func155, Try.ntmps155
  go_wp2_with fail
  go_loopw [3, 9] (fun v i wr => ∃ k : Nat, k ≤ N ∧ i = .int .i64 k ∧ OwI w.heap.size wr v (indicesL (l.take k)) ∧ Below w.heap.size w wr) (fun _ i _ => N - (intOf i).toNat)
  case atStart => exact ⟨0, by omega, rfl, ho.out, by go_grown⟩
  case round =>
    obtain ⟨k, hk, rfl, hown, hB⟩ := hrel
    clear ho
    by_cases hlt : k < N
    · obtain ⟨b, off, x, y, rfl, hbl, hv, hd, g1, g2, c0, c1⟩ := (hr'.out.below hB).at_ (k := k) (by have := HN.out; omega)
      have hs := Lib.hid (indicesL_snoc hv)
      have hil : (indicesL (l.take k)).length ≤ 1048576 := by rw [indicesL_len, List.length_take]; omega
      have hrg := idxI_rng (x, y)
      have hg : I64 (idxI (x, y)) := ⟨by omega, by omega⟩
      have hi : cellIdx x y = idxI (x, y) := rfl
      have Hi := Lib.hid hi
      have Hg := Lib.hid hg
      have Ho := Lib.hid (hown.bel (bl_alloc (Below.refl _ _) (.cells #[.int .i64 x, .int .i64 y] 35)))
      have P := Blk.new wr 35 [.int .i64 x, .int .i64 y]
      have Pc := P.c2
      replace hB := bl_alloc hB (.cells #[.int .i64 x, .int .i64 y] 35)
      clear hv hd hown hrg hg hi
      go_wp2_with (first | (go_at_call 192; refine (CellIndex_i x y _).mono ?_; rintro e wn ⟨rfl, hbn⟩; have hSz := bl_sz (bl_trans hB (by go_grown)) hbn; replace hB := bl_trans (bl_trans hB (by go_grown)) hbn; replace P := P.bel (bl_trans (by go_grown) hbn); replace Pc := P.c2; rw [Hi.out]; replace Ho := Lib.hid (Ho.out.bel hbn); clear hbn) | (at_builtin; refine wpList_atI rfl (.tmp 13) (.tmp 16) rfl w.heap.size _ (indicesL (l.take k)) (idxI (x, y)) rfl rfl Ho.out hB.size hil Hg.out ?_; intro v' w1 ho1 hb1 hg1 hat1 hsz1))
      go_roundw
      case rel => exact ⟨k + 1, by omega, by go_num, by rw [hs.out]; exact ho1, hb1 _ hB⟩
      case measure => simp [intOf]; omega
    · have hkl : k = N := by omega
      have e : l.take k = l := List.take_of_length_le (by have := HN.out; omega)
      rw [e] at hown
      have HF := Lib.hid hown
      clear hown e
      go_wp2_with fail
      go_ret
      exact ⟨_, rfl, HF.out, hB⟩
def minF (f : Cl → Int) (m : Int) (l : List Cl) : Int := l.foldl (fun m c => min m (f c)) m
def lowX (l : List Cl) : Int := minF Prod.fst (l.headD (0, 0)).1 l
def lowY (l : List Cl) : Int := minF Prod.snd (l.headD (0, 0)).2 l
theorem min_if (a b : Int) : (if b < a then b else a) = min a b := by split <;> omega
theorem minF_snoc (f : Cl → Int) (m : Int) {l : List Cl} {k : Nat} {c : Cl} (h : l[k]? = some c) : minF f m (l.take (k + 1)) = if f c < minF f m (l.take k) then f c else minF f m (l.take k) := by
  rw [take_snoc_at h, min_if]; simp [minF]
theorem minF_rng (f : Cl → Int) {a b : Int} : ∀ (l : List Cl) (m : Int), (a ≤ m ∧ m ≤ b) → (∀ c ∈ l, a ≤ f c ∧ f c ≤ b) → a ≤ minF f m l ∧ minF f m l ≤ b := by
  intro l
  induction l with
  | nil => intro m h _; exact h
  | cons c l ih =>
    intro m h hl
    rw [minF, List.foldl_cons]
    refine ih _ ?_ (fun d hd => hl d (by simp [hd]))
    have := hl c (by simp)
    omega
set_option maxHeartbeats 1000000 in
theorem corner_any (A : Option Addr) (N c : Nat) (l : List Cl) (w : World) (hN : N = l.length) (hl : N ≤ 1048576) (h0 : 0 < N) (hr : RdC w A l) :
    Calls Try.prog 157 #[.slice A N c] w fun e w' => e = .returned (.tuple #[.int .i64 (lowX l), .int .i64 (lowY l)]) ∧ Below w.heap.size w w' := by
  have HN := Lib.hid hN
  have hr' := Lib.hid hr
  clear hN hr
  obtain ⟨b, off, x0, y0, rfl, hbl, hv, hd, g1, g2, c0, c1⟩ := hr'.out.at_ (k := 0) (by have := HN.out; omega)
  have hh : l.headD (0, 0) = (x0, y0) := by cases l <;> simp_all
  have hX : lowX l = minF Prod.fst x0 l := by rw [lowX, hh]
  have hY : lowY l = minF Prod.snd y0 l := by rw [lowY, hh]
  have HX := Lib.hid hX
  have HY := Lib.hid hY
  simp only [Nat.zero_mul, Nat.add_zero] at c0 c1
  clear hv hd hh hX hY
  go_enter Try.func157, Try.ntmps157
  go_wp2_with fail
  go_quiet (fail)
  go_wp2_with fail
  go_loopw [4, 5, 18] (fun u v i wr => ∃ k : Nat, k ≤ N ∧ i = .int .i64 k ∧ u = .int .i64 (minF Prod.fst x0 (l.take k)) ∧ v = .int .i64 (minF Prod.snd y0 (l.take k)) ∧ Below w.heap.size w wr) (fun _ _ i _ => N - (intOf i).toNat)
  case atStart => exact ⟨0, by omega, rfl, rfl, rfl, bl_drewN (by go_grown) _⟩
  case round =>
    obtain ⟨k, hk, rfl, rfl, rfl, hB⟩ := hrel
    clear c0 c1
    by_cases hlt : k < N
    · obtain ⟨b', off', x, y, hA, hbl', hv, hd, g3, g4, c0, c1⟩ := (hr'.out.below hB).at_ (k := k) (by have := HN.out; omega)
      injection hA with hA
      injection hA with hA hA'
      subst hA
      subst hA'
      have hs1 := Lib.hid (minF_snoc Prod.fst x0 hv)
      have hs2 := Lib.hid (minF_snoc Prod.snd y0 hv)
      have P := Blk.new wr 35 [.int .i64 x, .int .i64 y]
      have Pc := P.c2
      replace hB := bl_alloc hB (.cells #[.int .i64 x, .int .i64 y] 35)
      clear hv hd
      go_wp2_with fail
      go_quiet (fail)
      go_wp2_with fail
      go_roundw
      case rel => exact ⟨k + 1, by omega, by go_num, by rw [hs1.out], by rw [hs2.out], bl_drewN hB _⟩
      case measure => simp [intOf]; omega
    · have hkl : l.take k = l := List.take_of_length_le (by have := HN.out; omega)
      rw [hkl]
      clear hkl
      go_wp2_with fail
      go_ret2
      exact ⟨by rw [HX.out, HY.out]; rfl, hB⟩
theorem cell_beq (x y a b : Int) : (x == a && y == b) = decide ((x, y) = (a, b)) := by
  rw [Bool.eq_iff_iff]; simp
set_option maxHeartbeats 1000000 in
theorem l10Has_any (A : Option Addr) (N c : Nat) (l : List Cl) (x y : Int) (w : World) (hN : N = l.length) (hl : N ≤ 1048576) (hr : RdC w A l) :
    Calls Try.prog 176 #[.slice A N c, .agg #[.int .i64 x, .int .i64 y]] w fun e w' => e = .returned (.bool (decide ((x, y) ∈ l))) ∧ Below w.heap.size w w' := by
  have P := Blk.new w 35 [.int .i64 x, .int .i64 y]
  have he := eq_cell
  have HN := Lib.hid hN
  clear hN
  go_enter Try.func176, Try.ntmps176
  go_wp2
  go_loopw [5] (fun i wr => ∃ k : Nat, k ≤ N ∧ i = .int .i64 k ∧ decide ((x, y) ∈ l) = decide ((x, y) ∈ l.drop k) ∧ Blk wr w.heap.size 35 [.int .i64 x, .int .i64 y] ∧ Below w.heap.size w wr) (fun i _ => N - (intOf i).toNat)
  case atStart => exact ⟨0, by omega, rfl, rfl, P, by go_grown⟩
  case round =>
    obtain ⟨k, hk, rfl, hall, P', hb⟩ := hrel
    have Pc := P'.c2
    clear P
    by_cases hlt : k < N
    · obtain ⟨b', off, a, b, rfl, hbl, hx, hd, _, _, hc0, hc1⟩ := (hr.below hb).at_ (k := k) (by have := HN.out; omega)
      rw [hd] at hall
      have q0 := bq_cell hc0
      have q1 := bq_cell hc1
      have p0 := bq_cell Pc.1
      have p1 := bq_cell Pc.2
      have H := Lib.hid hall
      have Hb := Lib.hid hb
      have HP := Lib.hid P'
      clear hall hd hx hr hb P' hc0 hc1 Pc
      have hbe := cell_beq a b x y
      by_cases h : (a, b) = (x, y)
      · have hbe' : (a == x && b == y) = true := by rw [hbe]; simp [h]
        have h' := Lib.hid h
        clear hbe h
        go_wp2
        (refine wp_region_quiet_bel (by kernel_rfl) (by kernel_rfl) ?_; (repeat (first | go_big_quiet_step (fail) | quiet_step (fail))); refine wpQuiet_nil ?_; intro wq hw0; obtain ⟨⟨_, hbq⟩, hw1⟩ := hw0; subst hw1; try dsimp only)
        go_wp2
        go_ret
        exact ⟨ret_bool (by rw [H.out, ← h'.out]; simp), bl_trans Hb.out hbq⟩
      · have hbe' : (a == x && b == y) = false := by rw [hbe]; simp only [decide_eq_false_iff_not]; exact h
        have h' := Lib.hid (show ¬ (x, y) = (a, b) from fun e => h e.symm)
        clear hbe h
        go_wp2
        (refine wp_region_quiet_bel (by kernel_rfl) (by kernel_rfl) ?_; (repeat (first | go_big_quiet_step (fail) | quiet_step (fail))); refine wpQuiet_nil ?_; intro wq hw0; obtain ⟨⟨_, hbq⟩, hw1⟩ := hw0; subst hw1; try dsimp only)
        go_wp2
        go_roundw
        case rel => exact ⟨k + 1, by omega, by go_num, by rw [H.out]; simp only [List.mem_cons, h'.out, false_or], HP.out.bel hbq, bl_trans Hb.out hbq⟩
        case measure => simp [intOf]; omega
    · have h1 : l.drop k = [] := List.drop_eq_nil_of_le (by have := HN.out; omega)
      rw [h1] at hall
      have H := Lib.hid hall
      clear hall h1 hr
      go_wp2
      go_ret
      exact ⟨ret_bool (by rw [H.out]; simp), hb⟩
/-! ### shapes: the plain model -/
theorem asc_lt {l : List Int} (h : ∀ i < l.length, ascAt l i = true) : ∀ (j i : Nat) (hj : j < l.length) (hi : i < l.length), i < j → l[i] < l[j] := by
  intro j
  induction j with
  | zero => intro i _ _ h; omega
  | succ j ih =>
    intro i hj hi hij
    have h1 := h (j + 1) hj
    have e1 : iAt l j = l[j] := iAt_eq (List.getElem?_eq_getElem (by omega))
    have e2 : iAt l (j + 1) = l[j + 1] := iAt_eq (List.getElem?_eq_getElem hj)
    simp only [ascAt, Nat.add_sub_cancel, e1, e2] at h1
    have h2 : l[j] < l[j + 1] := by simpa using h1
    rcases Nat.lt_or_ge i j with h3 | h3
    · have := ih i (by omega) hi h3; omega
    · obtain rfl : i = j := by omega
      exact h2
theorem asc_pair {l : List Int} (h : ∀ i < l.length, ascAt l i = true) : l.Pairwise (· < ·) := by
  rw [List.pairwise_iff_getElem]
  intro i j hi hj hij
  exact asc_lt h j i hj hi hij
structure Strict (l : List Cl) : Prop where
  ok : ∀ c ∈ l, cellOk c.1 c.2 = true
  asc : (l.map idxN).Pairwise (· < ·)
theorem strict_of {l : List Cl} (h : strictB (indicesL l) 0 63 = true) : Strict l := by
  have h2 := strictB_iff.1 h
  have hok : ∀ c ∈ l, cellOk c.1 c.2 = true := fun c hc => idxI_nonneg (h2.2 (idxI c) (List.mem_map.2 ⟨c, hc, rfl⟩)).1
  refine ⟨hok, ?_⟩
  have hp := asc_pair h2.1
  unfold indicesL at hp
  rw [List.pairwise_map] at hp ⊢
  refine hp.imp_of_mem fun {a b} ha hb hab => ?_
  rw [idxI_ok (hok a ha), idxI_ok (hok b hb)] at hab
  omega
theorem of_strict {l : List Cl} (h : Strict l) : strictB (indicesL l) 0 63 = true := by
  rw [strictB_iff]
  constructor
  · intro i hi
    rcases Nat.eq_zero_or_pos i with h0 | h0
    · simp [ascAt, h0]
    · rw [indicesL_len] at hi
      have hp := h.asc
      rw [List.pairwise_iff_getElem] at hp
      have h3 := hp (i - 1) i (by simp; omega) (by simpa using hi) (by omega)
      have e1 : iAt (indicesL l) (i - 1) = (idxN l[i - 1] : Int) := iAt_eq (by rw [indicesL, List.getElem?_map, List.getElem?_eq_getElem (by omega)]; simp only [Option.map]; rw [idxI_ok (h.ok _ (List.getElem_mem _))])
      have e2 : iAt (indicesL l) i = (idxN l[i] : Int) := iAt_eq (by rw [indicesL, List.getElem?_map, List.getElem?_eq_getElem hi]; simp only [Option.map]; rw [idxI_ok (h.ok _ (List.getElem_mem _))])
      simp only [ascAt, e1, e2]
      simp only [List.getElem_map] at h3
      simp; right; omega
  · intro x hx
    obtain ⟨c, hc, rfl⟩ := List.mem_map.1 hx
    rw [idxI_ok (h.ok c hc)]
    have := idxN_lt (h.ok c hc)
    omega
theorem sorted_eq : ∀ {a b : List Nat}, a.Pairwise (· < ·) → b.Pairwise (· < ·) → (∀ x, x ∈ a ↔ x ∈ b) → a = b := by
  intro a
  induction a with
  | nil =>
    intro b _ _ h
    cases b with
    | nil => rfl
    | cons y b => exact absurd ((h y).2 (by simp)) (by simp)
  | cons x a ih =>
    intro b ha hb h
    cases b with
    | nil => exact absurd ((h x).1 (by simp)) (by simp)
    | cons y b =>
      rw [List.pairwise_cons] at ha hb
      have hxy : x = y := by
        have h1 := (h x).1 (by simp)
        have h2 := (h y).2 (by simp)
        rw [List.mem_cons] at h1 h2
        rcases h1 with h1 | h1
        · exact h1
        · rcases h2 with h2 | h2
          · exact h2.symm
          · have := hb.1 x h1; have := ha.1 y h2; omega
      subst hxy
      congr 1
      refine ih ha.2 hb.2 fun z => ⟨fun hz => ?_, fun hz => ?_⟩
      · rcases List.mem_cons.1 ((h z).1 (by simp [hz])) with e | e
        · subst e; exact absurd (ha.1 z hz) (Nat.lt_irrefl z)
        · exact e
      · rcases List.mem_cons.1 ((h z).2 (by simp [hz])) with e | e
        · subst e; exact absurd (hb.1 z hz) (Nat.lt_irrefl z)
        · exact e
theorem map_of_idx {l : List Cl} (h : ∀ c ∈ l, cellOk c.1 c.2 = true) : (l.map idxN).map cellOf = l := by
  rw [List.map_map]
  have : l.map (cellOf ∘ idxN) = l.map id := List.map_congr_left fun c hc => of_idxN (h c hc)
  rw [this, List.map_id]
theorem Strict.cells {l : List Cl} (h : Strict l) : cellsBy (setL l).testBit 64 = l := by
  have e : l.map idxN = (List.range 64).filter (setL l).testBit := by
    refine sorted_eq h.asc (List.Pairwise.filter _ List.pairwise_lt_range) fun x => ?_
    rw [List.mem_filter, List.mem_range, setL_bit, decide_eq_true_eq]
    constructor
    · intro hx
      obtain ⟨c, hc, rfl⟩ := List.mem_map.1 hx
      exact ⟨idxN_lt (h.ok c hc), c, hc, rfl⟩
    · rintro ⟨_, c, hc, rfl⟩
      exact List.mem_map.2 ⟨c, hc, rfl⟩
  rw [cellsBy, ← e, map_of_idx h.ok]
theorem Strict.nodup {l : List Cl} (h : Strict l) : l.Nodup := by
  have hp := h.asc
  rw [List.pairwise_map] at hp
  exact hp.imp fun {a b} hab e => by rw [e] at hab; omega
theorem Strict.mem {l : List Cl} (h : Strict l) {d : Cl} (hd : cellOk d.1 d.2 = true) : (setL l).testBit (idxN d) = decide (d ∈ l) := by
  have := setL_has h.ok hd
  unfold hasBit at this
  rwa [hd, Bool.true_and] at this
theorem grow_mem {s : Nat} {c d : Cl} {L : List Cl} (h : d ∈ grow s L c) : d ∈ L ∨ (cellOk d.1 d.2 = true ∧ s.testBit (idxN d) = true) := by
  have key : ∀ (l : List Cl) (L : List Cl), d ∈ l.foldl addC L → d ∈ L ∨ d ∈ l := by
    intro l
    induction l with
    | nil => intro L h; exact .inl h
    | cons e l ih =>
      intro L h
      rcases ih _ h with h | h
      · unfold addC at h
        split at h
        · exact .inl h
        · rcases List.mem_append.1 h with h | h
          · exact .inl h
          · simp at h; exact .inr (by simp [h])
      · exact .inr (by simp [h])
  rcases key _ _ h with h | h
  · exact .inl h
  · have := mem_cellsBy.1 h
    simp only [Bool.and_eq_true] at this
    exact .inr ⟨this.1, this.2.1⟩
theorem bfs_mem {s : Nat} {d : Cl} (f : Nat) : ∀ {k : Nat} {L : List Cl}, d ∈ bfs s f k L → d ∈ L ∨ (cellOk d.1 d.2 = true ∧ s.testBit (idxN d) = true) := by
  induction f with
  | zero => intro k L h; exact .inl h
  | succ f ih =>
    intro k L h
    rw [bfs] at h
    split at h
    · exact .inl h
    · rcases ih h with h | h
      · exact grow_mem h
      · exact .inr h
theorem nodup_sub : ∀ {a b : List Cl}, a.Nodup → (∀ x ∈ a, x ∈ b) → a.length ≤ b.length := by
  intro a
  induction a with
  | nil => intro b _ _; simp
  | cons x a ih =>
    intro b hd h
    rw [List.nodup_cons] at hd
    have hx := h x (by simp)
    have := ih (b := b.erase x) hd.2 fun y hy => by
      have : y ≠ x := fun e => hd.1 (e ▸ hy)
      exact (List.mem_erase_of_ne this).2 (h y (by simp [hy]))
    rw [List.length_erase_of_mem hx] at this
    have hb : 0 < b.length := List.length_pos_of_mem hx
    simp only [List.length_cons]; omega
theorem setL_eq {a b : List Cl} (ha : ∀ c ∈ a, cellOk c.1 c.2 = true) (hb : ∀ c ∈ b, cellOk c.1 c.2 = true) : setL a = setL b ↔ ∀ d, d ∈ a ↔ d ∈ b := by
  constructor
  · intro h d
    constructor
    · intro hd
      have := setL_has ha (ha d hd)
      rw [h, setL_has hb (ha d hd)] at this
      simpa [hd] using this
    · intro hd
      have := setL_has hb (hb d hd)
      rw [← h, setL_has ha (hb d hd)] at this
      simpa [hd] using this
  · intro h
    apply Nat.eq_of_testBit_eq
    intro i
    rw [setL_bit, setL_bit]
    apply decide_eq_decide.2
    constructor
    · rintro ⟨c, hc, e⟩; exact ⟨c, (h c).1 hc, e⟩
    · rintro ⟨c, hc, e⟩; exact ⟨c, (h c).2 hc, e⟩
theorem reach_all {l : List Cl} (h : Strict l) {c : Cl} (hc : c ∈ l) : (setL (reachL (setL l) c) == setL l) = decide ((reachL (setL l) c).length = l.length) := by
  have hw := reachL_wf (setL l) (h.ok c hc)
  have hsub : ∀ d ∈ reachL (setL l) c, d ∈ l := fun d hd => by
    rcases bfs_mem 65 hd with h1 | ⟨h1, h2⟩
    · simp at h1; exact h1 ▸ hc
    · rw [h.mem h1] at h2; simpa using h2
  rw [Bool.eq_iff_iff, beq_iff_eq, decide_eq_true_eq, setL_eq hw.ok h.ok]
  constructor
  · intro he
    have h1 := nodup_sub hw.nd hsub
    have h2 := nodup_sub h.nodup (fun d hd => (he d).2 hd)
    omega
  · intro he d
    refine ⟨hsub d, fun hd => ?_⟩
    by_cases hm : d ∈ reachL (setL l) c
    · exact hm
    · have := nodup_sub (a := d :: reachL (setL l) c) (b := l) (List.nodup_cons.2 ⟨hm, hw.nd⟩) (fun e he2 => by
        rcases List.mem_cons.1 he2 with rfl | he2
        · exact hd
        · exact hsub e he2)
      simp only [List.length_cons] at this
      omega
theorem setOf_n (A : Option Addr) (N c : Nat) (l : List Cl) (w : World) (hN : N = l.length) (hl : N ≤ 1048576) (hr : RdC w A l) (hok : ∀ c ∈ l, cellOk c.1 c.2 = true) :
    Calls Try.prog 122 #[.slice A N c] w fun e w' => e = .returned (.int .u64 (setL l)) ∧ Below w.heap.size w w' := by subst hN; exact setOf_any A c l w hl hr hok
def shapeOk (l : List Cl) : Bool := inB l.length 1 5 && (strictB (indicesL l) 0 63 && (lowX l == 0 && lowY l == 0 && decide ((reachL (setL l) (l.headD (0, 0))).length = l.length)))
theorem headD_at {l : List Cl} {c : Cl} (h : l[0]? = some c) : l.headD (0, 0) = c := by cases l <;> simp_all
set_option maxRecDepth 100000 in
set_option maxHeartbeats 1000000 in
theorem ShapeOk_i (A : Option Addr) (N c : Nat) (l : List Cl) (w : World) (hN : N = l.length) (hl : N ≤ 1048576) (hr : RdC w A l) :
    Calls Try.prog 71 #[.slice A N c] w fun e w' => e = .returned (.bool (shapeOk l)) ∧ Below w.heap.size w w' := by
  have HN := Lib.hid hN
  have hr' := Lib.hid hr
  have hil : (indicesL l).length ≤ 1048576 := by rw [indicesL_len, ← hN]; exact hl
  have hB := Below.refl w.heap.size w
  cases c1 : inB N 1 5
  · have hv := Lib.hid (show shapeOk l = false by rw [shapeOk, ← hN, c1]; rfl)
    have C1 := Lib.hid c1
    clear hN hr c1
    go_enter Try.func71, Try.ntmps71
    go_wp2_with (go_at_call 89; refine (within_any _ _ _ _).mono ?_; rintro e wn ⟨rfl, rfl⟩; rw [C1.out])
    go_ret
    exact ⟨ret_bool (by rw [hv.out]), hB⟩
  · have i1 := inB_true.1 c1
    have h0 : 0 < N := by omega
    have C1 := Lib.hid c1
    cases c2 : strictB (indicesL l) 0 63
    · have hv := Lib.hid (show shapeOk l = false by rw [shapeOk, c2]; simp)
      have C2 := Lib.hid c2
      clear hN hr c1 c2
      go_enter Try.func71, Try.ntmps71
      go_wp2_with (first | (go_at_call 89; refine (within_any _ _ _ _).mono ?_; rintro e wn ⟨rfl, rfl⟩; rw [C1.out]) | (go_at_call 155; refine (indices_any A N c l _ HN.out hl (hr'.out.below hB)).mono ?_; rintro e wn ⟨v, rfl, o1, hbn⟩; have hSz := bl_sz (bl_trans hB (by go_grown)) hbn; replace hB := bl_trans (bl_trans hB (by go_grown)) hbn; obtain ⟨⟨A2, c2', rfl⟩, _⟩ := id o1; have O1 := Lib.hid o1.rd; clear o1; clear hbn) | (go_at_call 147; refine (isStrict_any A2 c2' (indicesL l) 0 63 _ hil O1.out).mono ?_; rintro e wn ⟨rfl, hbn⟩; have hSz := bl_sz (bl_trans hB (by go_grown)) hbn; replace hB := bl_trans (bl_trans hB (by go_grown)) hbn; rw [C2.out]; clear hbn))
      go_ret
      exact ⟨ret_bool (by rw [hv.out]), hB⟩
    · have hst := strict_of c2
      have Hst := Lib.hid hst
      obtain ⟨b, off, x0, y0, rfl, hbl, hv0, hd, g1, g2, e0, e1⟩ := hr'.out.at_ (k := 0) (by omega)
      have hmem : (x0, y0) ∈ l := List.mem_of_getElem? hv0
      have hok := hst.ok _ hmem
      have hhd := headD_at hv0
      simp only [Nat.zero_mul, Nat.add_zero] at e0 e1
      have hsl := setL_lt hst.ok
      have C2 := Lib.hid c2
      have hall := reach_all hst hmem
      obtain ⟨sl, hsl'⟩ : ∃ sl, sl = setL l := ⟨_, rfl⟩
      by_cases c3 : lowX l = 0 ∧ lowY l = 0
      · have hv := Lib.hid (show shapeOk l = (((setL (reachL sl (x0, y0)) : Nat) : Int) == ((sl : Nat) : Int)) by
          rw [shapeOk, c2, hhd, beq_cast, hsl', hall, c3.1, c3.2, ← hN, c1]; rfl)
        have C3 := Lib.hid c3
        have HS := Lib.hid hsl'
        have HOK := Lib.hid hst.ok
        rw [← hsl'] at hsl
        clear hN hr c1 c2 c3 hv0 hd hst hmem hhd hsl' hall
        go_enter Try.func71, Try.ntmps71
        go_wp2_with (first | (go_at_call 89; refine (within_any _ _ _ _).mono ?_; rintro e wn ⟨rfl, rfl⟩; rw [C1.out]) | (go_at_call 155; refine (indices_any _ N c l _ HN.out hl (hr'.out.below hB)).mono ?_; rintro e wn ⟨v, rfl, o1, hbn⟩; have hSz := bl_sz (bl_trans hB (by go_grown)) hbn; replace hB := bl_trans (bl_trans hB (by go_grown)) hbn; obtain ⟨⟨A2, c2', rfl⟩, _⟩ := id o1; have O1 := Lib.hid o1.rd; clear o1; clear hbn) | (go_at_call 147; refine (isStrict_any A2 c2' (indicesL l) 0 63 _ hil O1.out).mono ?_; rintro e wn ⟨rfl, hbn⟩; have hSz := bl_sz (bl_trans hB (by go_grown)) hbn; replace hB := bl_trans (bl_trans hB (by go_grown)) hbn; rw [C2.out]; clear hbn) | (go_at_call 157; refine (corner_any _ N c l _ HN.out hl h0 (hr'.out.below hB)).mono ?_; rintro e wn ⟨rfl, hbn⟩; have hSz := bl_sz (bl_trans hB (by go_grown)) hbn; replace hB := bl_trans (bl_trans hB (by go_grown)) hbn; rw [C3.out.1, C3.out.2]; clear hbn) | (go_at_call 122; refine (setOf_n _ N c l _ HN.out hl (hr'.out.below hB) HOK.out).mono ?_; rintro e wn ⟨rfl, hbn⟩; have hSz := bl_sz (bl_trans hB (by go_grown)) hbn; replace hB := bl_trans (bl_trans hB (by go_grown)) hbn; rw [← HS.out]; have f0 := (bcell hB).1 b off hbl; have f1 := (bcell hB).1 b (off + 1) hbl; rw [e0] at f0; rw [e1] at f1; clear hbn) | (go_at_call 158; refine (reach_any sl x0 y0 _ hsl hok).mono ?_; rintro e wn ⟨rfl, hbn⟩; have hSz := bl_sz (bl_trans hB (by go_grown)) hbn; replace hB := bl_trans (bl_trans hB (by go_grown)) hbn; clear hbn))
        go_ret
        exact ⟨ret_bool (by rw [hv.out]), hB⟩
      · have hv := Lib.hid (show shapeOk l = false by
          rw [shapeOk]
          rcases Classical.not_and_iff_not_or_not.1 c3 with h | h <;> simp [h])
        by_cases c4 : lowX l = 0
        · have c5 : lowY l ≠ 0 := fun h => c3 ⟨c4, h⟩
          have c5' : (lowY l != 0) = true := by simpa using c5
          have C4 := Lib.hid c4
          clear hN hr c1 c2 c3 c4 hv0 hd hst hmem hhd hsl' hall hsl
          go_enter Try.func71, Try.ntmps71
          go_wp2_with (first | (go_at_call 89; refine (within_any _ _ _ _).mono ?_; rintro e wn ⟨rfl, rfl⟩; rw [C1.out]) | (go_at_call 155; refine (indices_any _ N c l _ HN.out hl (hr'.out.below hB)).mono ?_; rintro e wn ⟨v, rfl, o1, hbn⟩; have hSz := bl_sz (bl_trans hB (by go_grown)) hbn; replace hB := bl_trans (bl_trans hB (by go_grown)) hbn; obtain ⟨⟨A2, c2', rfl⟩, _⟩ := id o1; have O1 := Lib.hid o1.rd; clear o1; clear hbn) | (go_at_call 147; refine (isStrict_any A2 c2' (indicesL l) 0 63 _ hil O1.out).mono ?_; rintro e wn ⟨rfl, hbn⟩; have hSz := bl_sz (bl_trans hB (by go_grown)) hbn; replace hB := bl_trans (bl_trans hB (by go_grown)) hbn; rw [C2.out]; clear hbn) | (go_at_call 157; refine (corner_any _ N c l _ HN.out hl h0 (hr'.out.below hB)).mono ?_; rintro e wn ⟨rfl, hbn⟩; have hSz := bl_sz (bl_trans hB (by go_grown)) hbn; replace hB := bl_trans (bl_trans hB (by go_grown)) hbn; rw [C4.out]; clear hbn))
          go_ret
          exact ⟨ret_bool (by rw [hv.out]), hB⟩
        · have c5' : (lowX l != 0) = true := by simpa using c4
          clear hN hr c1 c2 c3 hv0 hd hst hmem hhd hsl' hall hsl
          go_enter Try.func71, Try.ntmps71
          go_wp2_with (first | (go_at_call 89; refine (within_any _ _ _ _).mono ?_; rintro e wn ⟨rfl, rfl⟩; rw [C1.out]) | (go_at_call 155; refine (indices_any _ N c l _ HN.out hl (hr'.out.below hB)).mono ?_; rintro e wn ⟨v, rfl, o1, hbn⟩; have hSz := bl_sz (bl_trans hB (by go_grown)) hbn; replace hB := bl_trans (bl_trans hB (by go_grown)) hbn; obtain ⟨⟨A2, c2', rfl⟩, _⟩ := id o1; have O1 := Lib.hid o1.rd; clear o1; clear hbn) | (go_at_call 147; refine (isStrict_any A2 c2' (indicesL l) 0 63 _ hil O1.out).mono ?_; rintro e wn ⟨rfl, hbn⟩; have hSz := bl_sz (bl_trans hB (by go_grown)) hbn; replace hB := bl_trans (bl_trans hB (by go_grown)) hbn; rw [C2.out]; clear hbn) | (go_at_call 157; refine (corner_any _ N c l _ HN.out hl h0 (hr'.out.below hB)).mono ?_; rintro e wn ⟨rfl, hbn⟩; have hSz := bl_sz (bl_trans hB (by go_grown)) hbn; replace hB := bl_trans (bl_trans hB (by go_grown)) hbn; skip; clear hbn))
          go_ret
          exact ⟨ret_bool (by rw [hv.out]), hB⟩
theorem RdC.at2 {w : World} {A : Option Addr} {l : List Cl} (h : RdC w A l) {j k : Nat} (hj : j < l.length) (hk : k < l.length) :
    ∃ b off x y x' y', A = some ⟨b, off, none⟩ ∧ b < w.heap.size ∧ l[j]? = some (x, y) ∧ l[k]? = some (x', y') ∧
      w.cell? ⟨b, off + j * 2, none⟩ = some (.int .i64 x) ∧ w.cell? ⟨b, off + j * 2 + 1, none⟩ = some (.int .i64 y) ∧ w.cell? ⟨b, off + k * 2, none⟩ = some (.int .i64 x') ∧ w.cell? ⟨b, off + k * 2 + 1, none⟩ = some (.int .i64 y') := by
  obtain ⟨b, off, x, y, rfl, hb, hx, _, _, _, c0, c1⟩ := h.at_ hj
  obtain ⟨b', off', x', y', e, hb', hx', _, _, _, c0', c1'⟩ := h.at_ hk
  injection e with e
  injection e with e e'
  subst e
  subst e'
  exact ⟨b, off, x, y, x', y', rfl, hb, hx, hx', c0, c1, c0', c1'⟩
def goodAt (l : List Cl) (i : Nat) : Bool := inB (iAt (indicesL l) i) 0 63 && ascAt (indicesL l) i
theorem iAt_idx {l : List Cl} {k : Nat} {c : Cl} (h : l[k]? = some c) : iAt (indicesL l) k = idxI c := iAt_eq (by rw [indicesL, List.getElem?_map, h]; rfl)
theorem inB_idx (c : Cl) : inB (idxI c) 0 63 = cellOk c.1 c.2 := by
  cases h : cellOk c.1 c.2
  · simp [idxI, cellIdx, h, inB]
  · have := idxN_lt h
    rw [idxI_ok h]
    simp [inB]; omega
theorem goodAt_zero {l : List Cl} {x y : Int} (h : l[0]? = some (x, y)) : goodAt l 0 = cellOk x y := by
  rw [goodAt, iAt_idx h, inB_idx]; simp [ascAt]
theorem goodAt_succ {l : List Cl} {k : Nat} {x y x' y' : Int} (h : l[k]? = some (x, y)) (h' : l[k + 1]? = some (x', y')) : goodAt l (k + 1) = (cellOk x' y' && decide (cellIdx x y < cellIdx x' y')) := by
  rw [goodAt, iAt_idx h', inB_idx]
  simp only [ascAt, Nat.add_sub_cancel, iAt_idx h, iAt_idx h']
  rfl
theorem strict_at (l : List Cl) (N : Nat) (hN : N = l.length) : strictB (indicesL l) 0 63 = allFrom (goodAt l) 0 N := by
  rw [strictB_at, indicesL_len, ← hN]; rfl
theorem minF_8 {f : Cl → Int} {c : Cl} {t : List Cl} (h : f c ≤ 8) : minF f 8 (c :: t) = minF f (f c) (c :: t) := by
  unfold minF
  rw [List.foldl_cons, List.foldl_cons]
  congr 1
  omega
theorem low_8 {l : List Cl} (hs : Strict l) (h0 : 0 < l.length) : minF Prod.fst 8 l = lowX l ∧ minF Prod.snd 8 l = lowY l := by
  cases l with
  | nil => simp at h0
  | cons c t =>
    have := cellOk_iff.1 (hs.ok c (by simp))
    exact ⟨minF_8 (by omega), minF_8 (by omega)⟩
def addN (c : Cl) (L : List Cl) (d : Cl) : List Cl := if nbr c.1 c.2 d.1 d.2 then addC L d else L
theorem grow_addN {l : List Cl} (h : Strict l) (L : List Cl) (c : Cl) : grow (setL l) L c = l.foldl (addN c) L := by
  rw [grow_filter, h.cells]; rfl
theorem foldN_pre (c : Cl) (l : List Cl) : ∀ L : List Cl, ∃ t, l.foldl (addN c) L = L ++ t := by
  induction l with
  | nil => intro L; exact ⟨[], by simp⟩
  | cons d l ih =>
    intro L
    obtain ⟨u, hu⟩ := ih (addN c L d)
    rw [List.foldl_cons, hu]
    unfold addN
    split
    · obtain ⟨t, ht⟩ := addC_pre L d
      exact ⟨t ++ u, by rw [ht, List.append_assoc]⟩
    · exact ⟨u, rfl⟩
theorem WfL.foldN {s : Nat} (c : Cl) {l : List Cl} : ∀ {L : List Cl}, WfL s L → (∀ d ∈ l, cellOk d.1 d.2 = true) → WfL s (l.foldl (addN c) L) := by
  induction l with
  | nil => intro L h _; exact h
  | cons d l ih =>
    intro L h hd
    refine ih ?_ (fun e he => hd e (by simp [he]))
    unfold addN
    split
    · exact h.add (hd d (by simp))
    · exact h
set_option maxRecDepth 100000 in
set_option maxHeartbeats 1000000 in
theorem ShapeOk_s (A : Option Addr) (N c : Nat) (l : List Cl) (w : World) (hN : N = l.length) (hl : N ≤ 1048576) (hr : RdC w A l) :
    Calls Try.prog 95 #[.slice A N c] w fun e w' => e = .returned (.bool (shapeOk l)) ∧ Below w.heap.size w w' := by
  have HN := Lib.hid hN
  have hr' := Lib.hid hr
  have hB := Below.refl w.heap.size w
  cases c1 : inB N 1 5
  · have hv := Lib.hid (show shapeOk l = false by rw [shapeOk, ← hN, c1]; rfl)
    have C1 := Lib.hid c1
    clear hN hr c1
    go_enter Try.func95, Try.ntmps95
    go_wp2_with (go_at_call 128; refine (l01In_any _ _ _ _).mono ?_; rintro e wn ⟨rfl, rfl⟩; rw [C1.out])
    go_ret
    exact ⟨ret_bool (by rw [hv.out]), hB⟩
  · have i1 := inB_true.1 c1
    have h0 : 0 < N := by omega
    have C1 := Lib.hid c1
    have hsa := Lib.hid (strict_at l N hN)
    have P0 := Blk.new w 35 [.int .i64 8, .int .i64 8]
    clear hN hr c1
    go_enter Try.func95, Try.ntmps95
    go_wp2_with (go_at_call 128; refine (l01In_any _ _ _ _).mono ?_; rintro e wn ⟨rfl, rfl⟩; rw [C1.out])
    go_loopw [4] (fun q wr => ∃ k : Nat, k ≤ N ∧ q = .int .i64 k ∧ Hid (strictB (indicesL l) 0 63 = allFrom (goodAt l) k N) ∧ Blk wr w.heap.size 35 [.int .i64 (minF Prod.fst 8 (l.take k)), .int .i64 (minF Prod.snd 8 (l.take k))] ∧ Below w.heap.size w wr) (fun q _ => N - (intOf q).toNat)
    case atStart => exact ⟨0, by omega, rfl, hsa, P0, by go_grown⟩
    case round =>
      obtain ⟨k, hk, rfl, HA, P, hB1⟩ := hrel
      clear hB P0 hsa
      have hB := hB1
      clear hB1
      have Pc := P.c2
      by_cases hlt : k < N
      · by_cases h00 : k = 0
        · subst h00
          rw [List.take_zero] at P Pc
          obtain ⟨b, off, x, y, rfl, hbl, hx, _, _, _, cx, cy⟩ := hr'.out.at_ (k := 0) (by have := HN.out; omega)
          have hs1 := Lib.hid (minF_snoc Prod.fst 8 hx)
          have hs2 := Lib.hid (minF_snoc Prod.snd 8 hx)
          have hs1' := hs1.out
          have hs2' := hs2.out
          rw [List.take_zero] at hs1' hs2'
          replace hs1 := Lib.hid hs1'
          replace hs2 := Lib.hid hs2'
          have hA := HA.out
          clear hs1' hs2'
          rw [allFrom_step hlt, goodAt_zero hx] at hA
          have hd : decide ((0 : Int) < ((0 : Nat) : Int)) = false := by decide
          have f0 := (bcell hB).1 b (off + 0 * 2) hbl
          have f1 := (bcell hB).1 b (off + 0 * 2 + 1) hbl
          rw [cx] at f0
          rw [cy] at f1
          have q0 := bq_cell f0
          have q1 := bq_cell f1
          have HX := Lib.hid hx
          simp only [Nat.zero_mul, Nat.add_zero] at q0 q1
          cases hok : cellOk x y
          · rw [hok, Bool.false_and] at hA
            have hv := Lib.hid (show shapeOk l = false by rw [shapeOk, hA]; simp)
            have HOK := Lib.hid hok
            clear hA hok hx f0 f1 Pc
            go_wp2_with fail
            (refine wp_region_quiet_bel (by kernel_rfl) (by kernel_rfl) ?_; (repeat (first | go_big_quiet_step (first | (go_at_call 120; exact Calls.bel_of ((CellOk_s _ _ _).mono (fun e w' h => ⟨h.1.trans (ret_bool HOK.out), h.2⟩))) | (go_at_call 180; exact Calls.bel_of (CellIndex_s _ _ _))) | quiet_step (first | (go_at_call 120; exact Calls.bel_of ((CellOk_s _ _ _).mono (fun e w' h => ⟨h.1.trans (ret_bool HOK.out), h.2⟩))) | (go_at_call 180; exact Calls.bel_of (CellIndex_s _ _ _))))); refine wpQuiet_nil ?_; intro wq hw0; obtain ⟨⟨_, hbq⟩, hw1⟩ := hw0; subst hw1; try dsimp only)
            go_wp2_with fail
            go_ret
            exact ⟨ret_bool (by rw [hv.out]), bl_trans hB hbq⟩
          · rw [hok, Bool.true_and] at hA
            have HA2 := Lib.hid hA
            have HOK := Lib.hid hok
            clear hA hok hx f0 f1 HA
            go_wp2_with fail
            (refine wp_region_quiet_bel (by kernel_rfl) (by kernel_rfl) ?_; (repeat (first | go_big_quiet_step (first | (go_at_call 120; exact Calls.bel_of ((CellOk_s _ _ _).mono (fun e w' h => ⟨h.1.trans (ret_bool HOK.out), h.2⟩))) | (go_at_call 180; exact Calls.bel_of (CellIndex_s _ _ _))) | quiet_step (first | (go_at_call 120; exact Calls.bel_of ((CellOk_s _ _ _).mono (fun e w' h => ⟨h.1.trans (ret_bool HOK.out), h.2⟩))) | (go_at_call 180; exact Calls.bel_of (CellIndex_s _ _ _))))); refine wpQuiet_nil ?_; intro wq hw0; obtain ⟨⟨_, hbq⟩, hw1⟩ := hw0; subst hw1; try dsimp only)
            have hb2 := bl_trans hB hbq
            have P2 := P.bel hbq
            have P2c := P2.c2
            have z0 := P2.frozen 0
            have f0 := (bcell hb2).1 b (off + 0 * 2) hbl
            have f1 := (bcell hb2).1 b (off + 0 * 2 + 1) hbl
            rw [cx] at f0
            rw [cy] at f1
            by_cases hx1 : x < minF Prod.fst 8 []
            · have Hx1 := Lib.hid hx1
              by_cases hy1 : y < minF Prod.snd 8 []
              · have Hy1 := Lib.hid hy1
                have P3 := P2.set_ 0 (.int .i64 x)
                have hb3 := bl_set hb2 (p := ⟨w.heap.size, 0, none⟩) (Nat.le_refl _) (.int .i64 x)
                have P3c := P3.c2
                have z1 := P3.frozen 1
                have f2 := (bcell hb3).1 b (off + 0 * 2 + 1) hbl
                rw [cy] at f2
                have P4 := P3.set_ 1 (.int .i64 y)
                have hb4 := bl_set hb3 (p := ⟨w.heap.size, 1, none⟩) (Nat.le_refl _) (.int .i64 y)
                simp only [Nat.zero_mul, Nat.add_zero] at f0 f1 f2
                have HP4 := Lib.hid P4
                have Hb4 := Lib.hid hb4
                clear P P2 P3 P4 hb3 hb4 hb2 hbq hB Pc
                go_wp2_with fail
                go_region
                go_wp2_with fail
                go_region
                go_wp2_with fail
                go_roundw
                case rel => exact ⟨0 + 1, by omega, by go_num, HA2, by rw [hs1.out, hs2.out, if_pos Hx1.out, if_pos Hy1.out]; exact HP4.out, bl_drew (bl_drew Hb4.out)⟩
                case measure => simp [intOf]; omega
              · have Hy1 := Lib.hid hy1
                have P3 := P2.set_ 0 (.int .i64 x)
                have hb3 := bl_set hb2 (p := ⟨w.heap.size, 0, none⟩) (Nat.le_refl _) (.int .i64 x)
                have P3c := P3.c2
                have z1 := P3.frozen 1
                have f2 := (bcell hb3).1 b (off + 0 * 2 + 1) hbl
                rw [cy] at f2
                have P4 := P3.set_ 1 (.int .i64 (minF Prod.snd 8 []))
                have hb4 := bl_set hb3 (p := ⟨w.heap.size, 1, none⟩) (Nat.le_refl _) (.int .i64 (minF Prod.snd 8 []))
                simp only [Nat.zero_mul, Nat.add_zero] at f0 f1 f2
                have HP4 := Lib.hid P4
                have Hb4 := Lib.hid hb4
                clear P P2 P3 P4 hb3 hb4 hb2 hbq hB Pc
                go_wp2_with fail
                go_region
                go_wp2_with fail
                go_region
                go_wp2_with fail
                go_roundw
                case rel => exact ⟨0 + 1, by omega, by go_num, HA2, by rw [hs1.out, hs2.out, if_pos Hx1.out, if_neg (Int.not_lt.2 Hy1.out)]; exact HP4.out, bl_drew (bl_drew Hb4.out)⟩
                case measure => simp [intOf]; omega
            · have Hx1 := Lib.hid hx1
              by_cases hy1 : y < minF Prod.snd 8 []
              · have Hy1 := Lib.hid hy1
                have P3 := P2.set_ 0 (.int .i64 (minF Prod.fst 8 []))
                have hb3 := bl_set hb2 (p := ⟨w.heap.size, 0, none⟩) (Nat.le_refl _) (.int .i64 (minF Prod.fst 8 []))
                have P3c := P3.c2
                have z1 := P3.frozen 1
                have f2 := (bcell hb3).1 b (off + 0 * 2 + 1) hbl
                rw [cy] at f2
                have P4 := P3.set_ 1 (.int .i64 y)
                have hb4 := bl_set hb3 (p := ⟨w.heap.size, 1, none⟩) (Nat.le_refl _) (.int .i64 y)
                simp only [Nat.zero_mul, Nat.add_zero] at f0 f1 f2
                have HP4 := Lib.hid P4
                have Hb4 := Lib.hid hb4
                clear P P2 P3 P4 hb3 hb4 hb2 hbq hB Pc
                go_wp2_with fail
                go_region
                go_wp2_with fail
                go_region
                go_wp2_with fail
                go_roundw
                case rel => exact ⟨0 + 1, by omega, by go_num, HA2, by rw [hs1.out, hs2.out, if_neg (Int.not_lt.2 Hx1.out), if_pos Hy1.out]; exact HP4.out, bl_drew (bl_drew Hb4.out)⟩
                case measure => simp [intOf]; omega
              · have Hy1 := Lib.hid hy1
                have P3 := P2.set_ 0 (.int .i64 (minF Prod.fst 8 []))
                have hb3 := bl_set hb2 (p := ⟨w.heap.size, 0, none⟩) (Nat.le_refl _) (.int .i64 (minF Prod.fst 8 []))
                have P3c := P3.c2
                have z1 := P3.frozen 1
                have f2 := (bcell hb3).1 b (off + 0 * 2 + 1) hbl
                rw [cy] at f2
                have P4 := P3.set_ 1 (.int .i64 (minF Prod.snd 8 []))
                have hb4 := bl_set hb3 (p := ⟨w.heap.size, 1, none⟩) (Nat.le_refl _) (.int .i64 (minF Prod.snd 8 []))
                simp only [Nat.zero_mul, Nat.add_zero] at f0 f1 f2
                have HP4 := Lib.hid P4
                have Hb4 := Lib.hid hb4
                clear P P2 P3 P4 hb3 hb4 hb2 hbq hB Pc
                go_wp2_with fail
                go_region
                go_wp2_with fail
                go_region
                go_wp2_with fail
                go_roundw
                case rel => exact ⟨0 + 1, by omega, by go_num, HA2, by rw [hs1.out, hs2.out, if_neg (Int.not_lt.2 Hx1.out), if_neg (Int.not_lt.2 Hy1.out)]; exact HP4.out, bl_drew (bl_drew Hb4.out)⟩
                case measure => simp [intOf]; omega
        · obtain ⟨j, rfl⟩ : ∃ j, k = j + 1 := ⟨k - 1, by omega⟩
          obtain ⟨b, off, x, y, x2, y2, rfl, hbl, hx, hx2, cx0, cy0, cx, cy⟩ := hr'.out.at2 (j := j) (k := j + 1) (by have := HN.out; omega) (by have := HN.out; omega)
          have hs1 := Lib.hid (minF_snoc Prod.fst 8 hx2)
          have hs2 := Lib.hid (minF_snoc Prod.snd 8 hx2)
          have hA := HA.out
          rw [allFrom_step hlt, goodAt_succ hx hx2] at hA
          have hd : decide ((0 : Int) < ((j + 1 : Nat) : Int)) = true := by simp <;> omega
          have f2 := (bcell hB).1 b (off + j * 2) hbl
          have f3 := (bcell hB).1 b (off + j * 2 + 1) hbl
          have f0 := (bcell hB).1 b (off + (j + 1) * 2) hbl
          have f1 := (bcell hB).1 b (off + (j + 1) * 2 + 1) hbl
          rw [cx0] at f2
          rw [cy0] at f3
          rw [cx] at f0
          rw [cy] at f1
          have q0 := bq_cell f0
          have q1 := bq_cell f1
          have q2 := bq_cell f2
          have q3 := bq_cell f3
          cases hok : cellOk x2 y2
          · rw [hok, Bool.false_and, Bool.false_and] at hA
            have hv := Lib.hid (show shapeOk l = false by rw [shapeOk, hA]; simp)
            have HOK := Lib.hid hok
            clear hA hok hx hx2 f0 f1 f2 f3 Pc h00
            go_wp2_with fail
            (refine wp_region_quiet_bel (by kernel_rfl) (by kernel_rfl) ?_; (repeat (first | go_big_quiet_step (first | (go_at_call 120; exact Calls.bel_of ((CellOk_s _ _ _).mono (fun e w' h => ⟨h.1.trans (ret_bool HOK.out), h.2⟩))) | (go_at_call 180; exact Calls.bel_of (CellIndex_s _ _ _))) | quiet_step (first | (go_at_call 120; exact Calls.bel_of ((CellOk_s _ _ _).mono (fun e w' h => ⟨h.1.trans (ret_bool HOK.out), h.2⟩))) | (go_at_call 180; exact Calls.bel_of (CellIndex_s _ _ _))))); refine wpQuiet_nil ?_; intro wq hw0; obtain ⟨⟨_, hbq⟩, hw1⟩ := hw0; subst hw1; try dsimp only)
            go_wp2_with fail
            go_ret
            exact ⟨ret_bool (by rw [hv.out]), bl_trans hB hbq⟩
          · by_cases hxy : cellIdx x y < cellIdx x2 y2
            · have hxy' : ¬ cellIdx x2 y2 ≤ cellIdx x y := by omega
              rw [hok, Bool.true_and, decide_eq_true hxy, Bool.true_and] at hA
              have HA2 := Lib.hid hA
              have HOK := Lib.hid hok
              clear hA hok hx hx2 f0 f1 f2 f3 HA h00
              go_wp2_with fail
              (refine wp_region_quiet_bel (by kernel_rfl) (by kernel_rfl) ?_; (repeat (first | go_big_quiet_step (first | (go_at_call 120; exact Calls.bel_of ((CellOk_s _ _ _).mono (fun e w' h => ⟨h.1.trans (ret_bool HOK.out), h.2⟩))) | (go_at_call 180; exact Calls.bel_of (CellIndex_s _ _ _))) | quiet_step (first | (go_at_call 120; exact Calls.bel_of ((CellOk_s _ _ _).mono (fun e w' h => ⟨h.1.trans (ret_bool HOK.out), h.2⟩))) | (go_at_call 180; exact Calls.bel_of (CellIndex_s _ _ _))))); refine wpQuiet_nil ?_; intro wq hw0; obtain ⟨⟨_, hbq⟩, hw1⟩ := hw0; subst hw1; try dsimp only)
              have hb2 := bl_trans hB hbq
              have P2 := P.bel hbq
              have P2c := P2.c2
              have z0 := P2.frozen 0
              have f0 := (bcell hb2).1 b (off + (j + 1) * 2) hbl
              have f1 := (bcell hb2).1 b (off + (j + 1) * 2 + 1) hbl
              rw [cx] at f0
              rw [cy] at f1
              by_cases hx1 : x2 < minF Prod.fst 8 (l.take (j + 1))
              · have Hx1 := Lib.hid hx1
                by_cases hy1 : y2 < minF Prod.snd 8 (l.take (j + 1))
                · have Hy1 := Lib.hid hy1
                  have P3 := P2.set_ 0 (.int .i64 x2)
                  have hb3 := bl_set hb2 (p := ⟨w.heap.size, 0, none⟩) (Nat.le_refl _) (.int .i64 x2)
                  have P3c := P3.c2
                  have z1 := P3.frozen 1
                  have f2 := (bcell hb3).1 b (off + (j + 1) * 2 + 1) hbl
                  rw [cy] at f2
                  have P4 := P3.set_ 1 (.int .i64 y2)
                  have hb4 := bl_set hb3 (p := ⟨w.heap.size, 1, none⟩) (Nat.le_refl _) (.int .i64 y2)
                  have HP4 := Lib.hid P4
                  have Hb4 := Lib.hid hb4
                  clear P P2 P3 P4 hb3 hb4 hb2 hbq hB Pc
                  go_wp2_with fail
                  go_region
                  go_wp2_with fail
                  go_region
                  go_wp2_with fail
                  go_roundw
                  case rel => exact ⟨j + 1 + 1, by omega, by go_num, HA2, by rw [hs1.out, hs2.out, if_pos Hx1.out, if_pos Hy1.out]; exact HP4.out, bl_drew (bl_drew Hb4.out)⟩
                  case measure => simp [intOf]; omega
                · have Hy1 := Lib.hid hy1
                  have P3 := P2.set_ 0 (.int .i64 x2)
                  have hb3 := bl_set hb2 (p := ⟨w.heap.size, 0, none⟩) (Nat.le_refl _) (.int .i64 x2)
                  have P3c := P3.c2
                  have z1 := P3.frozen 1
                  have f2 := (bcell hb3).1 b (off + (j + 1) * 2 + 1) hbl
                  rw [cy] at f2
                  have P4 := P3.set_ 1 (.int .i64 (minF Prod.snd 8 (l.take (j + 1))))
                  have hb4 := bl_set hb3 (p := ⟨w.heap.size, 1, none⟩) (Nat.le_refl _) (.int .i64 (minF Prod.snd 8 (l.take (j + 1))))
                  have HP4 := Lib.hid P4
                  have Hb4 := Lib.hid hb4
                  clear P P2 P3 P4 hb3 hb4 hb2 hbq hB Pc
                  go_wp2_with fail
                  go_region
                  go_wp2_with fail
                  go_region
                  go_wp2_with fail
                  go_roundw
                  case rel => exact ⟨j + 1 + 1, by omega, by go_num, HA2, by rw [hs1.out, hs2.out, if_pos Hx1.out, if_neg (Int.not_lt.2 Hy1.out)]; exact HP4.out, bl_drew (bl_drew Hb4.out)⟩
                  case measure => simp [intOf]; omega
              · have Hx1 := Lib.hid hx1
                by_cases hy1 : y2 < minF Prod.snd 8 (l.take (j + 1))
                · have Hy1 := Lib.hid hy1
                  have P3 := P2.set_ 0 (.int .i64 (minF Prod.fst 8 (l.take (j + 1))))
                  have hb3 := bl_set hb2 (p := ⟨w.heap.size, 0, none⟩) (Nat.le_refl _) (.int .i64 (minF Prod.fst 8 (l.take (j + 1))))
                  have P3c := P3.c2
                  have z1 := P3.frozen 1
                  have f2 := (bcell hb3).1 b (off + (j + 1) * 2 + 1) hbl
                  rw [cy] at f2
                  have P4 := P3.set_ 1 (.int .i64 y2)
                  have hb4 := bl_set hb3 (p := ⟨w.heap.size, 1, none⟩) (Nat.le_refl _) (.int .i64 y2)
                  have HP4 := Lib.hid P4
                  have Hb4 := Lib.hid hb4
                  clear P P2 P3 P4 hb3 hb4 hb2 hbq hB Pc
                  go_wp2_with fail
                  go_region
                  go_wp2_with fail
                  go_region
                  go_wp2_with fail
                  go_roundw
                  case rel => exact ⟨j + 1 + 1, by omega, by go_num, HA2, by rw [hs1.out, hs2.out, if_neg (Int.not_lt.2 Hx1.out), if_pos Hy1.out]; exact HP4.out, bl_drew (bl_drew Hb4.out)⟩
                  case measure => simp [intOf]; omega
                · have Hy1 := Lib.hid hy1
                  have P3 := P2.set_ 0 (.int .i64 (minF Prod.fst 8 (l.take (j + 1))))
                  have hb3 := bl_set hb2 (p := ⟨w.heap.size, 0, none⟩) (Nat.le_refl _) (.int .i64 (minF Prod.fst 8 (l.take (j + 1))))
                  have P3c := P3.c2
                  have z1 := P3.frozen 1
                  have f2 := (bcell hb3).1 b (off + (j + 1) * 2 + 1) hbl
                  rw [cy] at f2
                  have P4 := P3.set_ 1 (.int .i64 (minF Prod.snd 8 (l.take (j + 1))))
                  have hb4 := bl_set hb3 (p := ⟨w.heap.size, 1, none⟩) (Nat.le_refl _) (.int .i64 (minF Prod.snd 8 (l.take (j + 1))))
                  have HP4 := Lib.hid P4
                  have Hb4 := Lib.hid hb4
                  clear P P2 P3 P4 hb3 hb4 hb2 hbq hB Pc
                  go_wp2_with fail
                  go_region
                  go_wp2_with fail
                  go_region
                  go_wp2_with fail
                  go_roundw
                  case rel => exact ⟨j + 1 + 1, by omega, by go_num, HA2, by rw [hs1.out, hs2.out, if_neg (Int.not_lt.2 Hx1.out), if_neg (Int.not_lt.2 Hy1.out)]; exact HP4.out, bl_drew (bl_drew Hb4.out)⟩
                  case measure => simp [intOf]; omega
            · have hxy' : cellIdx x2 y2 ≤ cellIdx x y := by omega
              rw [hok, Bool.true_and, decide_eq_false hxy, Bool.false_and] at hA
              have hv := Lib.hid (show shapeOk l = false by rw [shapeOk, hA]; simp)
              have HOK := Lib.hid hok
              clear hA hok hx hx2 f0 f1 f2 f3 Pc h00
              go_wp2_with fail
              (refine wp_region_quiet_bel (by kernel_rfl) (by kernel_rfl) ?_; (repeat (first | go_big_quiet_step (first | (go_at_call 120; exact Calls.bel_of ((CellOk_s _ _ _).mono (fun e w' h => ⟨h.1.trans (ret_bool HOK.out), h.2⟩))) | (go_at_call 180; exact Calls.bel_of (CellIndex_s _ _ _))) | quiet_step (first | (go_at_call 120; exact Calls.bel_of ((CellOk_s _ _ _).mono (fun e w' h => ⟨h.1.trans (ret_bool HOK.out), h.2⟩))) | (go_at_call 180; exact Calls.bel_of (CellIndex_s _ _ _))))); refine wpQuiet_nil ?_; intro wq hw0; obtain ⟨⟨_, hbq⟩, hw1⟩ := hw0; subst hw1; try dsimp only)
              go_wp2_with fail
              go_ret
              exact ⟨ret_bool (by rw [hv.out]), bl_trans hB hbq⟩
      · have hkN : k = N := by omega
        have hA := HA.out
        rw [hkN, allFrom_end] at hA
        have hst := strict_of hA
        have htk : l.take k = l := List.take_of_length_le (by have := HN.out; omega)
        have hlow := low_8 hst (by have := HN.out; omega)
        rw [htk, hlow.1, hlow.2] at P
        obtain ⟨b, off, x0, y0, rfl, hbl, hv0, _, g1, g2, e0, e1⟩ := hr'.out.at_ (k := 0) (by have := HN.out; omega)
        simp only [Nat.zero_mul, Nat.add_zero] at e0 e1
        have hmem : (x0, y0) ∈ l := List.mem_of_getElem? hv0
        have hok0 := hst.ok _ hmem
        have hhd := headD_at hv0
        have hshape : shapeOk l = (lowX l == 0 && lowY l == 0 && decide ((reachL (setL l) (x0, y0)).length = N)) := by
          rw [shapeOk, hA, hhd, ← HN.out, C1.out]; rfl
        have HSH := Lib.hid hshape
        have HST := Lib.hid hst
        have f0 := (bcell hB).1 b off hbl
        have f1 := (bcell hB).1 b (off + 1) hbl
        rw [e0] at f0
        rw [e1] at f1
        have ho : OwC (w.heap.size + 1) (wr.alloc (.cells #[.int .i64 x0, .int .i64 y0] 35)) (.slice (some ⟨wr.heap.size, 0, none⟩) 1 1) [(x0, y0)] :=
          ⟨⟨_, _, rfl⟩, (Blk.new wr 35 [.int .i64 x0, .int .i64 y0]).own P.lt rfl (by decide), fun c hc => by simp at hc; subst hc; exact ⟨g1, g2⟩⟩
        have Ho := Lib.hid ho
        have P' := P.alloc (.cells #[.int .i64 x0, .int .i64 y0] 35)
        have hB' := bl_alloc hB (.cells #[.int .i64 x0, .int .i64 y0] 35)
        clear hA hst htk hlow hkN hmem hhd hshape ho HA Pc P hB hv0
        go_wp2_with fail
        go_loopw [5, 6] (fun v q wr => ∃ L, ∃ k : Nat, k ≤ L.length ∧ q = .int .i64 k ∧ OwC (w.heap.size + 1) wr v L ∧ Hid (WfL (setL l) L) ∧ Hid (bfs (setL l) (65 - k) k L = reachL (setL l) (x0, y0)) ∧ Blk wr w.heap.size 35 [.int .i64 (lowX l), .int .i64 (lowY l)] ∧ Below w.heap.size w wr) (fun _ q _ => 65 - (intOf q).toNat)
        case atStart => exact ⟨[(x0, y0)], 0, by simp, rfl, Ho.out, Lib.hid (WfL.one hok0), Lib.hid rfl, P', hB'⟩
        case round =>
          obtain ⟨L, k, hk, rfl, own, HW, HR, P, hB⟩ := hrel
          clear P' hB' Ho f0 f1
          obtain ⟨⟨A5, c5, rfl⟩, _⟩ := id own
          have hLl := HW.out.len
          obtain ⟨n0, hn0⟩ : ∃ n0, n0 = L.length := ⟨_, rfl⟩
          have Hn0 := Lib.hid hn0
          rw [← hn0] at own hk hLl ⊢
          clear hn0
          by_cases hlt : k < n0
          · obtain ⟨cx, cy, hLk⟩ : ∃ cx cy, L[k]? = some (cx, cy) := ⟨_, _, List.getElem?_eq_getElem (by have := Hn0.out; omega)⟩
            have HLk := Lib.hid hLk
            have Ho := Lib.hid own
            obtain ⟨wo, rfl⟩ : ∃ wo : World, wo = wr := ⟨_, rfl⟩
            clear hLk own
            go_wp2_with fail
            go_loopw [5, 7] (fun v q wr' => ∃ j : Nat, j ≤ N ∧ q = .int .i64 j ∧ OwC (w.heap.size + 1) wr' v ((l.take j).foldl (addN (cx, cy)) L) ∧ Blk wr' w.heap.size 35 [.int .i64 (lowX l), .int .i64 (lowY l)] ∧ Below w.heap.size w wr') (fun _ q _ => N - (intOf q).toNat)
            case atStart => exact ⟨0, by omega, rfl, Ho.out, P, hB⟩
            case round =>
              obtain ⟨j, hj, rfl, own, P', hB'⟩ := hrel
              clear P hB Ho
              have P := P'
              have hB := hB'
              clear P' hB'
              obtain ⟨M, hM⟩ : ∃ M, M = (l.take j).foldl (addN (cx, cy)) L := ⟨_, rfl⟩
              rw [← hM] at own
              have hMw : WfL (setL l) M := by rw [hM]; exact HW.out.foldN _ fun d hd => HST.out.ok d (List.mem_of_mem_take hd)
              have hMl := hMw.len
              obtain ⟨⟨A5, c5, rfl⟩, _⟩ := id own
              obtain ⟨n5, hn5⟩ : ∃ n5, n5 = M.length := ⟨_, rfl⟩
              rw [← hn5] at own hMl ⊢
              have Hn5 := Lib.hid hn5
              have hn5' : n5 ≤ 1048576 := by omega
              by_cases hlt2 : j < N
              · obtain ⟨b2, off2, dx, dy, hA2, hbl2, hv, hd, ga, gb, e2, e3⟩ := hr'.out.at_ (k := j) (by have := HN.out; omega)
                injection hA2 with hA2
                injection hA2 with hA2 hA3
                subst hA2
                subst hA3
                obtain ⟨tl, htl⟩ : ∃ t, M = L ++ t := by rw [hM]; exact foldN_pre _ _ _
                have hMk : M[k]? = some (cx, cy) := by rw [htl, List.getElem?_append_left (by have := Hn0.out; omega)]; exact HLk.out
                have hkM : k < M.length := (List.getElem?_eq_some_iff.1 hMk).1
                have hdo : cellOk dx dy = true := HST.out.ok (dx, dy) (List.mem_of_getElem? hv)
                have hnext : (l.take (j + 1)).foldl (addN (cx, cy)) L = addN (cx, cy) M (dx, dy) := by rw [take_snoc_at hv, List.foldl_append, ← hM]; rfl
                obtain ⟨b3, off3, cx', cy', hA4, hbl3, hv3, _, _, _, r0, r1⟩ := own.rd.at_ (k := k) hkM
                obtain ⟨rfl, rfl⟩ : cx' = cx ∧ cy' = cy := by rw [hMk] at hv3; injection hv3 with hv3; injection hv3 with h1 h2; exact ⟨h1.symm, h2.symm⟩
                subst hA4
                have hkn : k < n5 := by omega
                have f0 := (bcell hB).1 b (off + j * 2) hbl
                have f1 := (bcell hB).1 b (off + j * 2 + 1) hbl
                rw [e2] at f0
                rw [e3] at f1
                have q0 := bq_cell f0
                have q1 := bq_cell f1
                have q2 := bq_cell r0
                have q3 := bq_cell r1
                have HM := Lib.hid hM
                have Hnext := Lib.hid hnext
                have HRd := Lib.hid own.rd
                have Ho := Lib.hid own
                clear hv hd htl hMk hv3 hM hnext own hn5 hMw f0 f1 r0 r1
                cases t1 : nbr cx' cy' dx dy
                · have hst2 : addN (cx', cy') M (dx, dy) = M := by unfold addN; rw [if_neg (by rw [t1]; decide)]
                  have Hst := Lib.hid hst2
                  have HNB := Lib.hid t1
                  clear hst2 t1
                  go_wp2_with fail
                  (refine wp_region_quiet_bel (by kernel_rfl) (by kernel_rfl) ?_; (repeat (first | go_big_quiet_step (first | (go_at_call 181; exact Calls.bel_of ((AreNeighbors_s cx' cy' dx dy _).mono (fun e w' h => ⟨h.1.trans (ret_bool HNB.out), h.2⟩))) | (go_at_call 176; exact Calls.bel_of ((l10Has_any _ n5 c5 M dx dy _ Hn5.out hn5' (HRd.out.below (BelowOf.bel _))).mono (fun e w' h => ⟨h.1.trans (ret_bool HME.out), h.2⟩)))) | quiet_step (first | (go_at_call 181; exact Calls.bel_of ((AreNeighbors_s cx' cy' dx dy _).mono (fun e w' h => ⟨h.1.trans (ret_bool HNB.out), h.2⟩))) | (go_at_call 176; exact Calls.bel_of ((l10Has_any _ n5 c5 M dx dy _ Hn5.out hn5' (HRd.out.below (BelowOf.bel _))).mono (fun e w' h => ⟨h.1.trans (ret_bool HME.out), h.2⟩)))))); refine wpQuiet_nil ?_; intro wq hw0; obtain ⟨⟨_, hbq⟩, hw1⟩ := hw0; subst hw1; try dsimp only)
                  go_wp2_with fail
                  go_roundw
                  case rel => exact ⟨j + 1, by omega, by go_num, by rw [Hnext.out, Hst.out]; exact Ho.out.bel hbq, P.bel hbq, bl_trans hB hbq⟩
                  case measure => simp [intOf]; omega
                · by_cases hm : (dx, dy) ∈ M
                  · have hst2 : addN (cx', cy') M (dx, dy) = M := by unfold addN addC; rw [if_pos t1, if_pos hm]
                    have hme : decide ((dx, dy) ∈ M) = true := decide_eq_true hm
                    have Hst := Lib.hid hst2
                    have HNB := Lib.hid t1
                    have HME := Lib.hid hme
                    clear hst2 t1 hm hme
                    go_wp2_with fail
                    (refine wp_region_quiet_bel (by kernel_rfl) (by kernel_rfl) ?_; (repeat (first | go_big_quiet_step (first | (go_at_call 181; exact Calls.bel_of ((AreNeighbors_s cx' cy' dx dy _).mono (fun e w' h => ⟨h.1.trans (ret_bool HNB.out), h.2⟩))) | (go_at_call 176; exact Calls.bel_of ((l10Has_any _ n5 c5 M dx dy _ Hn5.out hn5' (HRd.out.below (BelowOf.bel _))).mono (fun e w' h => ⟨h.1.trans (ret_bool HME.out), h.2⟩)))) | quiet_step (first | (go_at_call 181; exact Calls.bel_of ((AreNeighbors_s cx' cy' dx dy _).mono (fun e w' h => ⟨h.1.trans (ret_bool HNB.out), h.2⟩))) | (go_at_call 176; exact Calls.bel_of ((l10Has_any _ n5 c5 M dx dy _ Hn5.out hn5' (HRd.out.below (BelowOf.bel _))).mono (fun e w' h => ⟨h.1.trans (ret_bool HME.out), h.2⟩)))))); refine wpQuiet_nil ?_; intro wq hw0; obtain ⟨⟨_, hbq⟩, hw1⟩ := hw0; subst hw1; try dsimp only)
                    go_wp2_with fail
                    go_roundw
                    case rel => exact ⟨j + 1, by omega, by go_num, by rw [Hnext.out, Hst.out]; exact Ho.out.bel hbq, P.bel hbq, bl_trans hB hbq⟩
                    case measure => simp [intOf]; omega
                  · have hst2 : addN (cx', cy') M (dx, dy) = M ++ [(dx, dy)] := by unfold addN addC; rw [if_pos t1, if_neg hm]
                    have hme : decide ((dx, dy) ∈ M) = false := decide_eq_false hm
                    have Hst := Lib.hid hst2
                    have HNB := Lib.hid t1
                    have HME := Lib.hid hme
                    clear hst2 t1 hm hme
                    go_wp2_with fail
                    (refine wp_region_quiet_bel (by kernel_rfl) (by kernel_rfl) ?_; (repeat (first | go_big_quiet_step (first | (go_at_call 181; exact Calls.bel_of ((AreNeighbors_s cx' cy' dx dy _).mono (fun e w' h => ⟨h.1.trans (ret_bool HNB.out), h.2⟩))) | (go_at_call 176; exact Calls.bel_of ((l10Has_any _ n5 c5 M dx dy _ Hn5.out hn5' (HRd.out.below (BelowOf.bel _))).mono (fun e w' h => ⟨h.1.trans (ret_bool HME.out), h.2⟩)))) | quiet_step (first | (go_at_call 181; exact Calls.bel_of ((AreNeighbors_s cx' cy' dx dy _).mono (fun e w' h => ⟨h.1.trans (ret_bool HNB.out), h.2⟩))) | (go_at_call 176; exact Calls.bel_of ((l10Has_any _ n5 c5 M dx dy _ Hn5.out hn5' (HRd.out.below (BelowOf.bel _))).mono (fun e w' h => ⟨h.1.trans (ret_bool HME.out), h.2⟩)))))); refine wpQuiet_nil ?_; intro wq hw0; obtain ⟨⟨_, hbq⟩, hw1⟩ := hw0; subst hw1; try dsimp only)
                    replace Ho := Lib.hid (Ho.out.bel hbq)
                    replace P := P.bel hbq
                    replace hB := bl_trans hB hbq
                    have f0 := q0 ⟨wq, hbq⟩
                    have f1 := q1 ⟨wq, hbq⟩
                    dsimp only at f0 f1
                    have hml : M.length ≤ 1048576 := by have := Hn5.out; omega
                    go_wp2_with (at_builtin; refine wpList_atC rfl (.tmp 95) (.tmp 100) rfl (w.heap.size + 1) _ M dx dy rfl rfl Ho.out P.lt hml ga gb ?_; intro v' w1 ho1 hb1 hg1 hat1 hsz1)
                    go_roundw
                    case rel => exact ⟨j + 1, by omega, by go_num, by rw [Hnext.out, Hst.out]; exact ho1, P.below (hb1 _ (Below.refl _ _)) (by omega), hB.trans ((hb1 _ (Below.refl _ _)).mono (by omega))⟩
                    case measure => simp [intOf]; omega
              · have htk : l.take j = l := List.take_of_length_le (by have := HN.out; omega)
                rw [htk, ← grow_addN HST.out L (cx, cy)] at hM
                have hfin : bfs (setL l) (65 - (k + 1)) (k + 1) M = reachL (setL l) (x0, y0) := by
                  rw [← HR.out, hM, show 65 - k = (65 - (k + 1)) + 1 by omega, bfs_step HLk.out]
                have hkM : k + 1 ≤ M.length := by
                  have h1 : L.length ≤ M.length := by rw [hM]; unfold grow; obtain ⟨t, ht⟩ := fold_pre (cellsBy (fun k => (setL l).testBit k && nbr (cx, cy).1 (cx, cy).2 (cellOf k).1 (cellOf k).2) 64) L; rw [ht]; simp
                  have := Hn0.out; omega
                have HF := Lib.hid hfin
                have HMw := Lib.hid hMw
                have Ho := Lib.hid own
                clear hM hfin hMw own htk hn5
                go_wp2_with fail
                go_roundw
                case rel => exact ⟨M, k + 1, hkM, by go_num, Ho.out, HMw, HF, P, hB⟩
                case measure => simp [intOf]; omega
          · have hRL : L = reachL (setL l) (x0, y0) := by rw [← HR.out, bfs_end (by have := Hn0.out; omega)]
            have hsh : shapeOk l = (lowX l == 0 && lowY l == 0 && decide (n0 = N)) := by rw [HSH.out, ← hRL, ← Hn0.out]
            have HSH2 := Lib.hid hsh
            clear hRL hsh own
            by_cases hx0 : lowX l = 0
            · by_cases hy0 : lowY l = 0
              · rw [hx0, hy0] at P
                have Pc := P.c2
                have HX := Lib.hid hx0
                have HY := Lib.hid hy0
                clear hx0 hy0
                go_wp2_with fail
                go_ret
                exact ⟨ret_bool (by rw [HSH2.out, HX.out, HY.out, show ((n0 : Int) == N) = decide (n0 = N) by rw [Bool.eq_iff_iff, beq_iff_eq, decide_eq_true_eq]; omega]; simp), hB⟩
              · have hy1 : (lowY l == 0) = false := by simpa using hy0
                rw [hx0] at P
                have Pc := P.c2
                have HX := Lib.hid hx0
                have HY := Lib.hid hy1
                clear hx0 hy0
                go_wp2_with fail
                go_ret
                exact ⟨ret_bool (by rw [HSH2.out, HX.out, HY.out]; simp), hB⟩
            · have hx1 : (lowX l == 0) = false := by simpa using hx0
              have Pc := P.c2
              have HX := Lib.hid hx1
              clear hx0
              go_wp2_with fail
              go_ret
              exact ⟨ret_bool (by rw [HSH2.out, HX.out]; simp), hB⟩
end Go.Proofs.Ytdcjhfmkkcakhaa

/-
  Contracts of the functions that order dominoes (order, IsDominoBefore, SortDominoes): what each returns, as a function of its arguments; nothing that was there is written; at most 1048576 dominoes.
-/
import Derived.Test.YtdcjhfmkkcakhaaColors
import Derived.Test.YtdcjhfmkkcakhaaApp
import Derived.Test.YtdcjhfmkkcakhaaSeg
import Derived.Deep.CutBlock
import Derived.Deep.CutRange
import Derived.Deep.DeepMust
namespace Go.Proofs.Ytdcjhfmkkcakhaa
open Go.ChangeShapes Go.WideShapes Go.ChangeAt Go.RowKit Go.Deep
set_option linter.unusedVariables false

def ordD (d : Dm) : Int := 2 * (d.2.1 * 8 + d.1) + (if d.2.2 then 1 else 0)
def okD (d : Dm) : Bool := domOk d.1 d.2.1 d.2.2
def befD (d e : Dm) : Bool := okD d && okD e && decide (ordD d < ordD e)
theorem ord_rng {d : Dm} (h : okD d = true) : 0 ≤ ordD d ∧ ordD d ≤ 127 := by
  have := cellOk_iff.1 (domOk_cells h).1
  unfold ordD; split <;> omega
theorem ord_inj {d e : Dm} (hd : okD d = true) (he : okD e = true) (h : ordD d = ordD e) : d = e := by
  obtain ⟨x, y, z⟩ := d
  obtain ⟨a, b, c⟩ := e
  have h1 := cellOk_iff.1 (domOk_cells hd).1
  have h2 := cellOk_iff.1 (domOk_cells he).1
  unfold ordD at h
  dsimp only at h h1 h2
  have hz : z = c := by
    cases z <;> cases c <;> simp at h ⊢
    all_goals omega
  subst hz
  have : x = a ∧ y = b := by split at h <;> omega
  rw [this.1, this.2]
def posD (out : List Dm) (d : Dm) : Nat → Nat
  | 0 => 0
  | k + 1 => if ordD d < ordD (dAt out k) then posD out d k else k + 1
def insD (out : List Dm) (d : Dm) : List Dm := if 0 < posD out d out.length ∧ dAt out (posD out d out.length - 1) = d then out else out.take (posD out d out.length) ++ d :: out.drop (posD out d out.length)
def addD (out : List Dm) (d : Dm) : List Dm := if okD d then insD out d else out
def sortD (l : List Dm) : List Dm := l.foldl addD []
theorem posD_le (out : List Dm) (d : Dm) : ∀ k, posD out d k ≤ k := by
  intro k
  induction k with
  | zero => simp [posD]
  | succ k ih => rw [posD]; split <;> omega
theorem posD_hi (out : List Dm) (d : Dm) : ∀ k i, posD out d k ≤ i → i < k → ordD d < ordD (dAt out i) := by
  intro k
  induction k with
  | zero => intro i _ h; omega
  | succ k ih =>
    intro i h1 h2
    rw [posD] at h1
    split at h1
    · rename_i h
      rcases Nat.lt_or_ge i k with h3 | h3
      · exact ih i h1 h3
      · obtain rfl : i = k := by omega
        exact h
    · omega
theorem posD_lo (out : List Dm) (d : Dm) : ∀ k, 0 < posD out d k → ordD (dAt out (posD out d k - 1)) ≤ ordD d := by
  intro k
  induction k with
  | zero => intro h; simp [posD] at h
  | succ k ih =>
    intro h
    rw [posD] at h ⊢
    split at h
    · rename_i h1; rw [if_pos h1]; exact ih h
    · rename_i h1; rw [if_neg h1]; simp only [Nat.add_sub_cancel]; omega
theorem insD_len (out : List Dm) (d : Dm) : (insD out d).length ≤ out.length + 1 := by
  have := posD_le out d out.length
  unfold insD
  split
  · omega
  · simp; omega
theorem sortD_snoc {l : List Dm} {k : Nat} {d : Dm} (h : l[k]? = some d) : sortD (l.take (k + 1)) = addD (sortD (l.take k)) d := by
  unfold sortD; rw [take_snoc_at h]; simp
theorem addD_len (out : List Dm) (d : Dm) : (addD out d).length ≤ out.length + 1 := by
  unfold addD; split
  · exact insD_len _ _
  · omega
theorem foldD_len (l : List Dm) : ∀ out : List Dm, (l.foldl addD out).length ≤ out.length + l.length := by
  induction l with
  | nil => intro out; exact Nat.le_refl _
  | cons d l ih => intro out; have := ih (addD out d); have := addD_len out d; rw [List.foldl_cons, List.length_cons]; omega
theorem sortD_len (l : List Dm) : (sortD l).length ≤ l.length := by have := foldD_len l []; simpa [sortD] using this
/-- Valid, and strictly in order. -/
structure Sor (out : List Dm) : Prop where
  ok : ∀ i < out.length, okD (dAt out i) = true
  lt : ∀ j < out.length, ∀ i < j, ordD (dAt out i) < ordD (dAt out j)
theorem dAt_ins (out : List Dm) (d : Dm) {p : Nat} (hp : p ≤ out.length) (i : Nat) : dAt (out.take p ++ d :: out.drop p) i = if i < p then dAt out i else if i = p then d else dAt out (i - 1) := by
  unfold dAt
  have e : (out.take p).length = p := by rw [List.length_take]; omega
  rw [List.getElem?_append, e]
  by_cases h1 : i < p
  · rw [if_pos h1, if_pos h1, List.getElem?_take, if_pos h1]
  · rw [if_neg h1, if_neg h1]
    by_cases h2 : i = p
    · subst h2; simp
    · rw [if_neg h2, show i - p = (i - 1 - p) + 1 by omega, List.getElem?_cons_succ, List.getElem?_drop, show p + (i - 1 - p) = i - 1 by omega]
theorem Sor.ins {out : List Dm} (h : Sor out) {d : Dm} (hd : okD d = true) : Sor (insD out d) := by
  unfold insD
  have hp := posD_le out d out.length
  have hhi := posD_hi out d out.length
  have hlo := posD_lo out d out.length
  generalize posD out d out.length = p at *
  split
  · exact h
  · rename_i hn
    have hlt : ∀ i < p, ordD (dAt out i) < ordD d := by
      intro i hi
      have h0 := hlo (by omega)
      have hne : ordD (dAt out (p - 1)) ≠ ordD d := fun e => hn ⟨by omega, ord_inj (h.ok _ (by omega)) hd e⟩
      rcases Nat.lt_or_ge i (p - 1) with h1 | h1
      · have := h.lt (p - 1) (by omega) i h1; omega
      · obtain rfl : i = p - 1 := by omega
        omega
    have hl : (out.take p ++ d :: out.drop p).length = out.length + 1 := by simp; omega
    refine ⟨fun i hi => ?_, fun j hj i hij => ?_⟩
    · rw [hl] at hi
      rw [dAt_ins out d hp]
      split
      · exact h.ok i (by omega)
      · split
        · exact hd
        · exact h.ok _ (by omega)
    · rw [hl] at hj
      rw [dAt_ins out d hp, dAt_ins out d hp]
      by_cases j1 : j < p
      · rw [if_pos j1, if_pos (by omega)]
        exact h.lt j (by omega) i hij
      · rw [if_neg j1]
        by_cases j2 : j = p
        · rw [if_pos j2, if_pos (by omega)]; exact hlt i (by omega)
        · rw [if_neg j2]
          by_cases i1 : i < p
          · rw [if_pos i1]; exact Int.lt_trans (hlt i i1) (hhi (j - 1) (by omega) (by omega))
          · rw [if_neg i1]
            by_cases i2 : i = p
            · rw [if_pos i2]; exact hhi (j - 1) (by omega) (by omega)
            · rw [if_neg i2]; exact h.lt (j - 1) (by omega) (i - 1) (by omega)
theorem Sor.add {out : List Dm} (h : Sor out) (d : Dm) : Sor (addD out d) := by
  unfold addD; split
  · rename_i hd; exact h.ins hd
  · exact h
theorem Sor.nil : Sor [] := ⟨fun i hi => by simp at hi, fun j hj => by simp at hj⟩
theorem Sor.fold (l : List Dm) : ∀ {out : List Dm}, Sor out → Sor (l.foldl addD out) := by
  induction l with
  | nil => intro out h; exact h
  | cons d l ih => intro out h; exact ih (h.add d)
theorem sortD_sor (l : List Dm) : Sor (sortD l) := Sor.nil.fold l
/-- The place from the front: the first that is not before. -/
def atD (out : List Dm) (d : Dm) : Nat → Nat → Nat
  | 0, k => k
  | f + 1, k => if befD (dAt out k) d then atD out d f (k + 1) else k
theorem atD_spec (out : List Dm) (d : Dm) : ∀ f k, k ≤ atD out d f k ∧ atD out d f k ≤ k + f ∧ (∀ i, k ≤ i → i < atD out d f k → befD (dAt out i) d = true) ∧ (atD out d f k < k + f → befD (dAt out (atD out d f k)) d = false) := by
  intro f
  induction f with
  | zero => intro k; exact ⟨Nat.le_refl _, Nat.le_refl _, fun i h1 h2 => by simp [atD] at h2; omega, fun h => by simp [atD] at h⟩
  | succ f ih =>
    intro k
    rw [atD]
    cases hb : befD (dAt out k) d
    · rw [if_neg (by decide)]
      exact ⟨Nat.le_refl _, by omega, fun i h1 h2 => by omega, fun _ => hb⟩
    · rw [if_pos rfl]
      obtain ⟨a, b, c, e⟩ := ih (k + 1)
      refine ⟨by omega, by omega, fun i h1 h2 => ?_, fun h => e (by omega)⟩
      rcases Nat.lt_or_ge k i with h3 | h3
      · exact c i (by omega) h2
      · obtain rfl : i = k := by omega
        exact hb
theorem insD_at {out : List Dm} (h : Sor out) {d : Dm} (hd : okD d = true) : insD out d = if atD out d out.length 0 < out.length ∧ dAt out (atD out d out.length 0) = d then out else out.take (atD out d out.length 0) ++ d :: out.drop (atD out d out.length 0) := by
  have hp := posD_le out d out.length
  have hhi := posD_hi out d out.length
  have hlo := posD_lo out d out.length
  obtain ⟨_, ha, hb, hc⟩ := atD_spec out d out.length 0
  unfold insD
  generalize posD out d out.length = p at *
  generalize atD out d out.length 0 = q at *
  rw [Nat.zero_add] at ha hc
  have hbef : ∀ i, i < out.length → (befD (dAt out i) d = true ↔ ordD (dAt out i) < ordD d) := fun i hi => by
    unfold befD; rw [h.ok i hi, hd]; simp
  have hqp : q ≤ p := by
    rcases Nat.lt_or_ge p q with h1 | h1
    · have h2 := (hbef p (by omega)).1 (hb p (by omega) h1)
      have h3 := hhi p (Nat.le_refl _) (by omega)
      omega
    · exact h1
  rcases Nat.lt_or_ge q p with h1 | h1
  · have h2 : ¬ ordD (dAt out q) < ordD d := fun e => by
      have := hc (by omega)
      rw [(hbef q (by omega)).2 e] at this; cases this
    have h3 := hlo (by omega)
    have hq : q = p - 1 := by
      rcases Nat.lt_or_ge q (p - 1) with h4 | h4
      · have := h.lt (p - 1) (by omega) q h4; omega
      · omega
    have he : dAt out q = d := ord_inj (h.ok q (by omega)) hd (by rw [hq] at h2 ⊢; omega)
    rw [if_pos ⟨by omega, by rw [← hq]; exact he⟩, if_pos ⟨by omega, he⟩]
  · obtain rfl : q = p := by omega
    rw [if_neg (fun e => ?_), if_neg (fun e => ?_)]
    · have := hhi q (Nat.le_refl _) e.1
      rw [e.2] at this; omega
    · have h2 := (hbef (q - 1) (by omega)).1 (hb (q - 1) (by omega) (by omega))
      rw [e.2] at h2; omega
theorem order_any (x y : Int) (z : Bool) (w : World) (h : okD (x, y, z) = true) :
    Calls Try.prog 200 #[.agg #[.int .i64 x, .int .i64 y, .bool z]] w fun e w' => e = .returned (.int .i64 (ordD (x, y, z))) ∧ Below w.heap.size w w' := by
  (have hB := Below.refl w.heap.size w; have P := Blk.new w 53 [.int .i64 x, .int .i64 y, .bool z]; have Pc := P.c3)
  have hc := (domOk_cells h).1
  have hi : cellIdx x y = y * 8 + x := by unfold cellIdx; rw [if_pos hc]
  have h1 := cellOk_iff.1 hc
  have Hi := Lib.hid hi
  clear hi h hc
  cases z
  · go_enter Try.func200, Try.ntmps200
    go_wp2_with (go_at_call 192; refine (CellIndex_i x y _).mono ?_; rintro e wn ⟨rfl, hbn⟩; have hSz := bl_sz (bl_trans hB (by go_grown)) hbn; replace hB := bl_trans (bl_trans hB (by go_grown)) hbn; replace P := P.bel (bl_trans (by go_grown) hbn); replace Pc := P.c3; rw [Hi.out]; clear hbn)
    go_ret
    exact ⟨ret_int (by unfold ordD; simp), (by first | (go_grown; done) | exact bl_trans hB (by go_grown))⟩
  · go_enter Try.func200, Try.ntmps200
    go_wp2_with (go_at_call 192; refine (CellIndex_i x y _).mono ?_; rintro e wn ⟨rfl, hbn⟩; have hSz := bl_sz (bl_trans hB (by go_grown)) hbn; replace hB := bl_trans (bl_trans hB (by go_grown)) hbn; replace P := P.bel (bl_trans (by go_grown) hbn); replace Pc := P.c3; rw [Hi.out]; clear hbn)
    go_ret
    exact ⟨ret_int (by unfold ordD; simp), (by first | (go_grown; done) | exact bl_trans hB (by go_grown))⟩
set_option maxHeartbeats 1000000 in
theorem IsDominoBefore_i (x y : Int) (z : Bool) (a b : Int) (c : Bool) (w : World) :
    Calls Try.prog 201 #[.agg #[.int .i64 x, .int .i64 y, .bool z], .agg #[.int .i64 a, .int .i64 b, .bool c]] w fun e w' => e = .returned (.bool (befD (x, y, z) (a, b, c))) ∧ Below w.heap.size w w' := by
  (have hB := Below.refl w.heap.size w; have P := (Blk.new w 53 [.int .i64 x, .int .i64 y, .bool z]).alloc (.cells #[.int .i64 a, .int .i64 b, .bool c] 53); have Pc := P.c3; have Q := Blk.new2 w (.cells #[.int .i64 x, .int .i64 y, .bool z] 53) 53 [.int .i64 a, .int .i64 b, .bool c]; have Qc := Q.c3)
  have hX := bl_alloc (bl_alloc (Below.refl w.heap.size w) (.cells #[.int .i64 x, .int .i64 y, .bool z] 53)) (.cells #[.int .i64 a, .int .i64 b, .bool c] 53)
  have p0 := bq_cell Pc.1
  have p1 := bq_cell Pc.2.1
  have p2 := bq_cell Pc.2.2
  have q0 := bq_cell Qc.1
  have q1 := bq_cell Qc.2.1
  have q2 := bq_cell Qc.2.2
  clear Pc Qc
  cases h1 : domOk x y z
  · have H1 := Lib.hid h1
    have hv := Lib.hid (show befD (x, y, z) (a, b, c) = false by unfold befD okD; dsimp only; rw [h1]; rfl)
    go_enter Try.func201, Try.ntmps201
    go_wp2_with fail
    (refine wp_region_quiet_bel (by kernel_rfl) (by kernel_rfl) ?_; (repeat (first | go_big_quiet_step (first | (go_at_call 143; exact Calls.bel_of (DominoOk_i _ _ _ _)) | (go_at_call 200; exact Calls.bel_of (order_any _ _ _ _ (by assumption)))) | quiet_step (first | (go_at_call 143; exact Calls.bel_of (DominoOk_i _ _ _ _)) | (go_at_call 200; exact Calls.bel_of (order_any _ _ _ _ (by assumption)))))); refine wpQuiet_nil ?_; intro wq hw0; obtain ⟨⟨_, hbq⟩, hw1⟩ := hw0; subst hw1; try dsimp only)
    go_wp2_with fail
    go_ret
    exact ⟨ret_bool (by rw [hv.out]), bl_trans hX hbq⟩
  · cases h2 : domOk a b c
    · have H1 := Lib.hid h1
      have H2 := Lib.hid h2
      have hv := Lib.hid (show befD (x, y, z) (a, b, c) = false by unfold befD okD; dsimp only; rw [h2]; simp)
      go_enter Try.func201, Try.ntmps201
      go_wp2_with fail
      (refine wp_region_quiet_bel (by kernel_rfl) (by kernel_rfl) ?_; (repeat (first | go_big_quiet_step (first | (go_at_call 143; exact Calls.bel_of (DominoOk_i _ _ _ _)) | (go_at_call 200; exact Calls.bel_of (order_any _ _ _ _ (by assumption)))) | quiet_step (first | (go_at_call 143; exact Calls.bel_of (DominoOk_i _ _ _ _)) | (go_at_call 200; exact Calls.bel_of (order_any _ _ _ _ (by assumption)))))); refine wpQuiet_nil ?_; intro wq hw0; obtain ⟨⟨_, hbq⟩, hw1⟩ := hw0; subst hw1; try dsimp only)
      go_wp2_with fail
      go_ret
      exact ⟨ret_bool (by rw [hv.out]), bl_trans hX hbq⟩
    · have H1 := Lib.hid h1
      have H2 := Lib.hid h2
      have hv := Lib.hid (show befD (x, y, z) (a, b, c) = decide (ordD (x, y, z) < ordD (a, b, c)) by unfold befD okD; dsimp only; rw [h1, h2]; rfl)
      have o1 : okD (x, y, z) = true := h1
      have o2 : okD (a, b, c) = true := h2
      go_enter Try.func201, Try.ntmps201
      go_wp2_with fail
      (refine wp_region_quiet_bel (by kernel_rfl) (by kernel_rfl) ?_; (repeat (first | go_big_quiet_step (first | (go_at_call 143; exact Calls.bel_of (DominoOk_i _ _ _ _)) | (go_at_call 200; exact Calls.bel_of (order_any _ _ _ _ (by assumption)))) | quiet_step (first | (go_at_call 143; exact Calls.bel_of (DominoOk_i _ _ _ _)) | (go_at_call 200; exact Calls.bel_of (order_any _ _ _ _ (by assumption)))))); refine wpQuiet_nil ?_; intro wq hw0; obtain ⟨⟨_, hbq⟩, hw1⟩ := hw0; subst hw1; try dsimp only)
      go_wp2_with fail
      go_ret
      exact ⟨ret_bool (by rw [hv.out]), bl_trans hX hbq⟩
set_option maxHeartbeats 1000000 in
theorem IsDominoBefore_s (x y : Int) (z : Bool) (a b : Int) (c : Bool) (w : World) :
    Calls Try.prog 189 #[.agg #[.int .i64 x, .int .i64 y, .bool z], .agg #[.int .i64 a, .int .i64 b, .bool c]] w fun e w' => e = .returned (.bool (befD (x, y, z) (a, b, c))) ∧ Below w.heap.size w w' := by
  (have hB := Below.refl w.heap.size w; have P := (Blk.new w 53 [.int .i64 x, .int .i64 y, .bool z]).alloc (.cells #[.int .i64 a, .int .i64 b, .bool c] 53); have Pc := P.c3; have Q := Blk.new2 w (.cells #[.int .i64 x, .int .i64 y, .bool z] 53) 53 [.int .i64 a, .int .i64 b, .bool c]; have Qc := Q.c3)
  cases h1 : domOk x y z
  · have H1 := Lib.hid h1
    have hv := Lib.hid (show befD (x, y, z) (a, b, c) = false by unfold befD okD; dsimp only; rw [h1]; rfl)
    clear h1
    go_enter Try.func189, Try.ntmps189
    go_wp2_with (go_at_call 168; refine (DominoOk_s x y z _).mono ?_; rintro e wn ⟨rfl, hbn⟩; have hSz := bl_sz (bl_trans hB (by go_grown)) hbn; replace hB := bl_trans (bl_trans hB (by go_grown)) hbn; replace P := P.bel (bl_trans (by go_grown) hbn); replace Pc := P.c3; replace Q := Q.bel (bl_trans (by go_grown) hbn); replace Qc := Q.c3; rw [H1.out]; clear hbn)
    go_ret
    exact ⟨ret_bool (by rw [hv.out]), (by first | (go_grown; done) | exact bl_trans hB (by go_grown))⟩
  · cases h2 : domOk a b c
    · have H1 := Lib.hid h1
      have H2 := Lib.hid h2
      have hv := Lib.hid (show befD (x, y, z) (a, b, c) = false by unfold befD okD; dsimp only; rw [h2]; simp)
      clear h1 h2
      go_enter Try.func189, Try.ntmps189
      go_wp2_with (go_at_call 168; refine (DominoOk_s _ _ _ _).mono ?_; rintro e wn ⟨rfl, hbn⟩; have hSz := bl_sz (bl_trans hB (by go_grown)) hbn; replace hB := bl_trans (bl_trans hB (by go_grown)) hbn; replace P := P.bel (bl_trans (by go_grown) hbn); replace Pc := P.c3; replace Q := Q.bel (bl_trans (by go_grown) hbn); replace Qc := Q.c3; (try rw [H1.out]); (try rw [H2.out]); clear hbn)
      go_ret
      exact ⟨ret_bool (by rw [hv.out]), (by first | (go_grown; done) | exact bl_trans hB (by go_grown))⟩
    · have H1 := Lib.hid h1
      have H2 := Lib.hid h2
      have g1 := cellOk_iff.1 (domOk_cells h1).1
      have g2 := cellOk_iff.1 (domOk_cells h2).1
      have hv := Lib.hid (show befD (x, y, z) (a, b, c) = decide (ordD (x, y, z) < ordD (a, b, c)) by unfold befD okD; dsimp only; rw [h1, h2]; rfl)
      clear h1 h2
      by_cases l1 : y * 8 + x < b * 8 + a
      · have L1 := Lib.hid (show decide (ordD (x, y, z) < ordD (a, b, c)) = true by
          rw [decide_eq_true_eq]; unfold ordD; dsimp only; split <;> split <;> omega)
        go_enter Try.func189, Try.ntmps189
        go_wp2_with (go_at_call 168; refine (DominoOk_s _ _ _ _).mono ?_; rintro e wn ⟨rfl, hbn⟩; have hSz := bl_sz (bl_trans hB (by go_grown)) hbn; replace hB := bl_trans (bl_trans hB (by go_grown)) hbn; replace P := P.bel (bl_trans (by go_grown) hbn); replace Pc := P.c3; replace Q := Q.bel (bl_trans (by go_grown) hbn); replace Qc := Q.c3; (try rw [H1.out]); (try rw [H2.out]); clear hbn)
        go_ret
        exact ⟨ret_bool (by rw [hv.out, L1.out]), (by first | (go_grown; done) | exact bl_trans hB (by go_grown))⟩
      · by_cases l2 : y * 8 + x = b * 8 + a
        · have l3 : (y * 8 + x == b * 8 + a) = true := by simpa using l2
          have L1 := Lib.hid (show decide (ordD (x, y, z) < ordD (a, b, c)) = (!z && c) by
            unfold ordD; dsimp only
            cases z <;> cases c <;> simp <;> omega)
          clear l2
          cases z <;> cases c
          all_goals
            go_enter Try.func189, Try.ntmps189
            go_wp2_with (go_at_call 168; refine (DominoOk_s _ _ _ _).mono ?_; rintro e wn ⟨rfl, hbn⟩; have hSz := bl_sz (bl_trans hB (by go_grown)) hbn; replace hB := bl_trans (bl_trans hB (by go_grown)) hbn; replace P := P.bel (bl_trans (by go_grown) hbn); replace Pc := P.c3; replace Q := Q.bel (bl_trans (by go_grown) hbn); replace Qc := Q.c3; (try rw [H1.out]); (try rw [H2.out]); clear hbn)
            go_ret
            exact ⟨ret_bool (by rw [hv.out, L1.out]; first | rfl | (simp; omega)), (by first | (go_grown; done) | exact bl_trans hB (by go_grown))⟩
        · have l3 : (y * 8 + x == b * 8 + a) = false := by simpa using l2
          have L1 := Lib.hid (show decide (ordD (x, y, z) < ordD (a, b, c)) = false by
            rw [decide_eq_false_iff_not]; unfold ordD; dsimp only; split <;> split <;> omega)
          clear l2
          go_enter Try.func189, Try.ntmps189
          go_wp2_with (go_at_call 168; refine (DominoOk_s _ _ _ _).mono ?_; rintro e wn ⟨rfl, hbn⟩; have hSz := bl_sz (bl_trans hB (by go_grown)) hbn; replace hB := bl_trans (bl_trans hB (by go_grown)) hbn; replace P := P.bel (bl_trans (by go_grown) hbn); replace Pc := P.c3; replace Q := Q.bel (bl_trans (by go_grown) hbn); replace Qc := Q.c3; (try rw [H1.out]); (try rw [H2.out]); clear hbn)
          go_ret
          exact ⟨ret_bool (by rw [hv.out, L1.out]; first | rfl | (simp; omega)), (by first | (go_grown; done) | exact bl_trans hB (by go_grown))⟩
theorem info_szD : (Try.prog.info? 53).map (·.size) = some 3 := by kernel_rfl
theorem flat_oneD {l : List Dm} : ∀ v ∈ l.flatMap cD, v.oneCell' = true := by
  intro v hv
  obtain ⟨c, _, hc⟩ := List.mem_flatMap.1 hv
  simp only [cD, List.mem_cons, List.not_mem_nil, or_false] at hc
  rcases hc with rfl | rfl | rfl <;> rfl
theorem copy_shiftD {w : World} {g : Nat} {out : List Dm} {z : Dm} {rest : List Value} (h : Blk w g 53 ((out ++ [z]).flatMap cD ++ rest)) {p dLen sLen od os : Nat} (hp : p < out.length) (ty : TypeId) (dCap sCap : Nat)
    (hd : dLen = out.length - p) (hs : sLen = out.length + 1 - p) (hod : od = (p + 1) * 3) (hos : os = p * 3) :
    (Builtin.copy_ #[46, 46] ty #[.slice (some ⟨g, od, none⟩) dLen dCap, .slice (some ⟨g, os, none⟩) sLen sCap]).run Try.prog w = .ok (goInt (Nat.min sLen dLen)) (w.setCells g od ((out.drop p).flatMap cD)) := by
  subst hd; subst hs; subst hod; subst hos
  have hl : ((out.drop p).flatMap cD).length = (out.length - p) * 3 := by rw [flatMap_len cD 3 (fun _ => rfl), List.length_drop]
  have hml : ((out ++ [z]).flatMap cD).length = (out.length + 1) * 3 := by rw [flatMap_len cD 3 (fun _ => rfl), List.length_append]; rfl
  have hmn : Nat.min (out.length + 1 - p) (out.length - p) = out.length - p := Nat.min_eq_right (by omega)
  refine run_copy_sz (P := Try.prog) w 46 46 ty 53 3 g _ _ _ ⟨g, p * 3, none⟩ _ _ _ Try.underlying46 info_szD ?_ ?_ ?_ ?_ flat_oneD
  · rw [hl, hmn]
  · intro j v hj
    have hj2 : j < (out.length - p) * 3 := by rw [← hl]; exact (List.getElem?_eq_some_iff.1 hj).1
    rw [Addr.add_lit, h.cell, List.getElem?_append_left (by rw [hml]; omega), List.flatMap_append, List.getElem?_append_left (by rw [flatMap_len cD 3 (fun _ => rfl)]; omega)]
    have e : out.flatMap cD = (out.take p).flatMap cD ++ (out.drop p).flatMap cD := by rw [← List.flatMap_append, List.take_append_drop]
    have e2 : ((out.take p).flatMap cD).length = p * 3 := by rw [flatMap_len cD 3 (fun _ => rfl), List.length_take, Nat.min_eq_left (by omega)]
    rw [e, List.getElem?_append_right (by rw [e2]; omega), e2, show p * 3 + j - p * 3 = j by omega]
    exact hj
  · intro j hj
    rw [hl] at hj
    rw [h.cell, List.getElem?_append_left (by rw [hml]; omega), List.getElem?_eq_getElem (by rw [hml]; omega)]; rfl
  · intro j hj
    exact h.frozen _
set_option maxRecDepth 100000 in
set_option maxHeartbeats 1000000 in
theorem SortDominoes_i (A : Option Addr) (N c : Nat) (l : List Dm) (w : World) (hN : N = l.length) (hl : N ≤ 1048576) (hr : RdD w A l) :
    Calls Try.prog 167 #[.slice A N c] w fun e w' => ∃ v, e = .returned v ∧ OwD w.heap.size w' v (sortD l) ∧ Below w.heap.size w w' := by
  have HN := Lib.hid hN
  have hr' := Lib.hid hr
  have ho := Lib.hid (OwD.new_ (B := w.heap.size) (w := w) (Nat.le_refl _))
  have hB0 := bl_alloc (Below.refl w.heap.size w) (.cells #[] 53)
  have he := eq_dom
  clear hN hr
  go_enter Try.func167, Try.ntmps167
  go_wp2_with fail
  go_loopw [3, 10] (fun v i wr => ∃ k : Nat, k ≤ N ∧ i = .int .i64 k ∧ OwD w.heap.size wr v (sortD (l.take k)) ∧ Below w.heap.size w wr) (fun _ i _ => N - (intOf i).toNat)
  case atStart => exact ⟨0, by omega, rfl, ho.out, hB0⟩
  case round =>
    obtain ⟨k, hk, rfl, own, hB⟩ := hrel
    clear ho hB0
    by_cases hlt : k < N
    · obtain ⟨b, off, x, y, z, rfl, hbl, hv, hd, g1, g2, c0, c1, c2⟩ := (hr'.out.below hB).at_ (k := k) (by have := HN.out; omega)
      have hsn := sortD_snoc hv
      obtain ⟨out, hout⟩ : ∃ out, out = sortD (l.take k) := ⟨_, rfl⟩
      rw [← hout] at own hsn
      have hol : out.length ≤ 1048576 := by rw [hout]; have := sortD_len (l.take k); rw [List.length_take] at this; omega
      have hvb := own.2.1.lt
      obtain ⟨⟨A5, c5, rfl⟩, _⟩ := id own
      obtain ⟨m, hm⟩ : ∃ m, m = out.length := ⟨_, rfl⟩
      have hml : out.length ≤ 1048576 := hol
      rw [← hm] at hol own hvb ⊢
      have Hm := Lib.hid hm
      have Hvb := Lib.hid hvb
      have HO := Lib.hid (own.bel (bl_alloc (Below.refl _ _) (.cells #[.int .i64 x, .int .i64 y, .bool z] 53)))
      have P := Blk.new wr 53 [.int .i64 x, .int .i64 y, .bool z]
      have Pc := P.c3
      replace hB := bl_alloc hB (.cells #[.int .i64 x, .int .i64 y, .bool z] 53)
      have Hsor := Lib.hid (show Sor out by rw [hout]; exact sortD_sor _)
      clear hv hd own hout hvb hm
      cases hok : domOk x y z
      · have OK := Lib.hid hok
        have Hsn := Lib.hid (show sortD (l.take (k + 1)) = out by rw [hsn, addD, if_neg (by unfold okD; dsimp only; rw [hok]; decide)])
        clear hok hsn
        go_wp2_with (go_at_call 143; refine (DominoOk_i x y z _).mono ?_; rintro e wn ⟨rfl, hbn⟩; have hSz := bl_sz (bl_trans hB (by go_grown)) hbn; replace hB := bl_trans (bl_trans hB (by go_grown)) hbn; replace P := P.bel (bl_trans (by go_grown) hbn); replace Pc := P.c3; rw [OK.out]; replace HO := Lib.hid (HO.out.bel hbn); clear hbn)
        go_roundw
        case rel => exact ⟨k + 1, by omega, by go_num, by rw [Hsn.out]; exact HO.out, hB⟩
        case measure => simp [intOf]; omega
      · have OK := Lib.hid hok
        have o1 : okD (x, y, z) = true := hok
        have hins : sortD (l.take (k + 1)) = insD out (x, y, z) := by rw [hsn, addD, if_pos o1]
        have Hins := Lib.hid hins
        clear hok hsn hins
        go_upto_block 2 with (go_at_call 143; refine (DominoOk_i x y z _).mono ?_; rintro e wo ⟨rfl, hbn⟩; have hSz := bl_sz (bl_trans hB (by go_grown)) hbn; replace hB := bl_trans (bl_trans hB (by go_grown)) hbn; replace P := P.bel (bl_trans (by go_grown) hbn); replace Pc := P.c3; rw [OK.out]; replace HO := Lib.hid (HO.out.bel hbn); clear hbn)
        have Q := P
        have HO2 := HO
        have hBo := hB
        clear hB HO P Pc
        go_cut [6] from 19 to 33 (fun q wr' => q = .int .i64 (posD out (x, y, z) m) ∧ Below wo.heap.size wo wr')
        case first =>
          go_wp2_with fail
          go_loopw [6] (fun q wr' => ∃ j : Nat, j ≤ m ∧ q = .int .i64 j ∧ Hid (posD out (x, y, z) j = posD out (x, y, z) m) ∧ Below wo.heap.size wo wr') (fun q _ => (intOf q).toNat)
          case atStart => exact ⟨m, Nat.le_refl _, rfl, Lib.hid rfl, Below.refl _ _⟩
          case round =>
            obtain ⟨j, hj, rfl, HP, hB2⟩ := hrel
            rcases Nat.eq_zero_or_pos j with h0 | h0
            · subst h0
              have hd : decide ((0 : Int) < ((0 : Nat) : Int)) = false := by decide
              have HP2 := Lib.hid (show posD out (x, y, z) m = 0 from HP.out.symm)
              go_wp2_with fail
              (refine wp_region_quiet_bel (by kernel_rfl) (by kernel_rfl) ?_; (repeat (first | go_big_quiet_step (fail) | quiet_step (fail))); refine wpQuiet_nil ?_; intro wq hw0; obtain ⟨⟨_, hbq⟩, hw1⟩ := hw0; subst hw1; try dsimp only)
              go_wp2_with fail
              go_meet
              refine ⟨?_, bl_trans hB2 hbq⟩
              rw [HP2.out]
            · obtain ⟨i, rfl⟩ : ∃ i, j = i + 1 := ⟨j - 1, by omega⟩
              have hd : decide ((0 : Int) < ((i + 1 : Nat) : Int)) = true := by simp <;> omega
              obtain ⟨b5, off5, a1, a2, a3, rfl, hbl5, hv5, _, ga, gb, e0, e1, e2⟩ := (HO2.out.rd.below hB2).at_ (k := i) (by have := Hm.out; omega)
              have Q2 := (Q.below hB2 Q.lt).c3
              have q0 := bq_cell e0
              have q1 := bq_cell e1
              have q2 := bq_cell e2
              have q3 := bq_cell Q2.1
              have q4 := bq_cell Q2.2.1
              have q5 := bq_cell Q2.2.2
              have hca := dAt_eq hv5
              have hstep : posD out (x, y, z) (i + 1) = if ordD (x, y, z) < ordD (a1, a2, a3) then posD out (x, y, z) i else i + 1 := by rw [posD, hca]
              rw [HP.out] at hstep
              have Hst := Lib.hid hstep
              have o2 : okD (a1, a2, a3) = true := by
                have := (Hsor.out).ok i (by have := Hm.out; omega)
                rwa [hca] at this
              clear hv5 hca hstep e0 e1 e2 Q2 h0
              by_cases y1 : ordD (x, y, z) < ordD (a1, a2, a3)
              · have d1 : decide (ordD (x, y, z) < ordD (a1, a2, a3)) = true := decide_eq_true y1
                have Hst2 := Lib.hid (show posD out (x, y, z) i = posD out (x, y, z) m by rw [Hst.out, if_pos y1])
                go_wp2_with fail
                (refine wp_region_quiet_bel (by kernel_rfl) (by kernel_rfl) ?_; (repeat (first | go_big_quiet_step ((go_at_call 200; exact Calls.bel_of (order_any _ _ _ _ (by assumption)))) | quiet_step ((go_at_call 200; exact Calls.bel_of (order_any _ _ _ _ (by assumption)))))); refine wpQuiet_nil ?_; intro wq hw0; obtain ⟨⟨_, hbq⟩, hw1⟩ := hw0; subst hw1; try dsimp only)
                go_wp2_with fail
                go_roundw
                case rel => exact ⟨i, by omega, by go_num, Hst2, bl_trans hB2 hbq⟩
                case measure => simp [intOf]
              · have d1 : decide (ordD (x, y, z) < ordD (a1, a2, a3)) = false := decide_eq_false y1
                have Hst2 := Lib.hid (show posD out (x, y, z) m = i + 1 by rw [Hst.out, if_neg y1])
                go_wp2_with fail
                (refine wp_region_quiet_bel (by kernel_rfl) (by kernel_rfl) ?_; (repeat (first | go_big_quiet_step ((go_at_call 200; exact Calls.bel_of (order_any _ _ _ _ (by assumption)))) | quiet_step ((go_at_call 200; exact Calls.bel_of (order_any _ _ _ _ (by assumption)))))); refine wpQuiet_nil ?_; intro wq hw0; obtain ⟨⟨_, hbq⟩, hw1⟩ := hw0; subst hw1; try dsimp only)
                go_wp2_with fail
                go_meet
                refine ⟨?_, bl_trans hB2 hbq⟩
                rw [Hst2.out]; rfl
        case rest =>
          obtain ⟨rfl, hB2⟩ := hcut
          have hins : sortD (l.take (k + 1)) = if 0 < posD out (x, y, z) m ∧ dAt out (posD out (x, y, z) m - 1) = (x, y, z) then out else out.take (posD out (x, y, z) m) ++ (x, y, z) :: out.drop (posD out (x, y, z) m) := by rw [Hins.out, insD, Hm.out]
          obtain ⟨p, hp⟩ : ∃ p, p = posD out (x, y, z) m := ⟨_, rfl⟩
          rw [← hp] at hins ⊢
          have hpm : p ≤ m := by rw [hp]; exact posD_le _ _ _
          clear hp Hins
          have hins2 := Lib.hid hins
          clear hins
          go_upto_region 9 with fail
          go_cut [44] from 34 to 44 (fun q wr' => q = .bool (decide (0 < p ∧ dAt out (p - 1) = (x, y, z))) ∧ Below wo.heap.size wo wr')
          case first =>
            rcases Nat.eq_zero_or_pos p with h0 | h0
            · subst h0
              have hd : decide ((0 : Int) < ((0 : Nat) : Int)) = false := by decide
              (refine wp_region_quiet_bel (by kernel_rfl) (by kernel_rfl) ?_; (repeat (first | go_big_quiet_step (fail) | quiet_step (fail))); refine wpQuiet_nil ?_; intro wq hw0; obtain ⟨⟨_, hbq⟩, hw1⟩ := hw0; subst hw1; try dsimp only)
              go_wp2_with fail
              go_meet
              exact ⟨by simp, bl_trans hB2 hbq⟩
            · have hd : decide ((0 : Int) < (p : Int)) = true := by simp; omega
              have hd2 : (0 : Int) < (p : Int) := by omega
              obtain ⟨b5, off5, a1, a2, a3, rfl, hbl5, hv5, _, ga, gb, e0, e1, e2⟩ := (HO2.out.rd.below hB2).at_ (k := p - 1) (by have := Hm.out; omega)
              have Q2 := (Q.below hB2 Q.lt).c3
              have q0 := bq_cell e0
              have q1 := bq_cell e1
              have q2 := bq_cell e2
              have q3 := bq_cell Q2.1
              have q4 := bq_cell Q2.2.1
              have q5 := bq_cell Q2.2.2
              have hca := dAt_eq hv5
              have hwi : IntKind.i64.wrap ((p : Int) - 1) = ((p - 1 : Nat) : Int) := by rw [show ((p : Int) - 1) = ((p - 1 : Nat) : Int) by omega]; exact IntWalk.i64_in _ (by omega)
              have hli : p - 1 < m := by omega
              have hbe := dom_beq a1 a2 x y a3 z
              have Hq := Lib.hid (show decide (0 < p ∧ dAt out (p - 1) = (x, y, z)) = decide ((a1, a2, a3) = (x, y, z)) by rw [hca]; apply decide_eq_decide.2; simp [h0])
              clear hv5 hca e0 e1 e2 Q2
              by_cases heq : (a1, a2, a3) = (x, y, z)
              · have hde : decide ((a1, a2, a3) = (x, y, z)) = true := decide_eq_true heq
                have hbe' : (a1 == x && a2 == y && a3 == z) = true := by rw [hbe]; exact hde
                have Hde := Lib.hid hde
                clear heq hbe hde
                (refine wp_region_quiet_bel (by kernel_rfl) (by kernel_rfl) ?_; (repeat (first | go_big_quiet_step (fail) | quiet_step (fail))); refine wpQuiet_nil ?_; intro wq hw0; obtain ⟨⟨_, hbq⟩, hw1⟩ := hw0; subst hw1; try dsimp only)
                go_wp2_with fail
                go_meet
                exact ⟨by rw [Hq.out, Hde.out], bl_trans hB2 hbq⟩
              · have hde : decide ((a1, a2, a3) = (x, y, z)) = false := decide_eq_false heq
                have hbe' : (a1 == x && a2 == y && a3 == z) = false := by rw [hbe]; exact hde
                have Hde := Lib.hid hde
                clear heq hbe hde
                (refine wp_region_quiet_bel (by kernel_rfl) (by kernel_rfl) ?_; (repeat (first | go_big_quiet_step (fail) | quiet_step (fail))); refine wpQuiet_nil ?_; intro wq hw0; obtain ⟨⟨_, hbq⟩, hw1⟩ := hw0; subst hw1; try dsimp only)
                go_wp2_with fail
                go_meet
                exact ⟨by rw [Hq.out, Hde.out], bl_trans hB2 hbq⟩
          case rest =>
            obtain ⟨rfl, hB3⟩ := hcut
            clear hB2
            have hB2 := hB3
            clear hB3
            obtain ⟨wq, rfl⟩ : ∃ wq : World, wq = wc := ⟨_, rfl⟩
            by_cases heq : 0 < p ∧ dAt out (p - 1) = (x, y, z)
            · have Hsn := Lib.hid (show sortD (l.take (k + 1)) = out by rw [hins2.out, if_pos heq])
              rw [decide_eq_true heq]
              clear heq hins2
              have HO4 := Lib.hid (HO2.out.bel hB2)
              have hBq := hBo.trans (hB2.mono hBo.size)
              go_wp2_with fail
              go_roundw
              case rel => exact ⟨k + 1, by omega, by go_num, by rw [Hsn.out]; exact HO4.out, hBq⟩
              case measure => simp [intOf]; omega
            · have Hsn2 := Lib.hid (show sortD (l.take (k + 1)) = out.take p ++ (x, y, z) :: out.drop p by rw [hins2.out, if_neg heq])
              rw [decide_eq_false heq]
              clear heq hins2
              have HO4 := Lib.hid (HO2.out.bel hB2)
              have Q4 := Q.bel hB2
              have hBq := hBo.trans (hB2.mono hBo.size)
              go_wp2_with (at_builtin; refine wpList_atD rfl (.tmp 45) (.tmp 47) rfl w.heap.size (.slice A5 m c5) out 0 0 false rfl rfl HO4.out hBq.size hml ⟨by decide, by decide⟩ ⟨by decide, by decide⟩ ?_; intro v' w1 ho1 hb1 hg1 hat1 hsz1)
              have hB5 := hb1 _ hBq
              obtain ⟨g, cap, rest, rfl, hBg, hcl, hcm, hsz, hblk⟩ := ho1.blk' (by simp)
              have hl1 : (out ++ [((0 : Int), (0 : Int), false)]).length = m + 1 := by rw [List.length_append, Hm.out]; rfl
              rw [hl1] at hcl ⊢
              have hgq : wr.heap.size ≠ g := by
                rcases hat1 with h1 | h1
                · exact fun e => by have := (Hvb.out g h1.symm).2; omega
                · have h1' : g = wq.heap.size + 1 := by simpa [Value.ownBlock] using h1
                  have := Q4.lt
                  omega
              have Q3 : Blk w1 wr.heap.size 53 [.int .i64 x, .int .i64 y, .bool z] := (hg1.block _ Q4.lt (fun e => by
                have := (Hvb.out wr.heap.size e.symm).2; omega)).trans Q4
              have Hb5 := Lib.hid hB5
              have Hblk := Lib.hid hblk
              have Hsz := Lib.hid hsz
              have Hgq := Lib.hid hgq
              have Hog := Lib.hid ho1.2.2
              have Q3c := Q3.c3
              clear hB5 hblk hsz hgq ho1 hb1 hg1 hat1 HO4 Q4 hBq hl1
              have hw1 : IntKind.i64.wrap ((p : Int) + 1) = (p : Int) + 1 := IntWalk.i64_in _ (by omega)
              by_cases hpm2 : p < m
              · have hc1 : ¬ cap = p + 1 := by omega
                have hc2 : ¬ cap = p := by omega
                have hpo : p < out.length := by have := Hm.out; omega
                have hsegW : Blk (w1.drew.setCells g ((p + 1) * 3) ((out.drop p).flatMap cD)) g 53 ((out.take (p + 1) ++ out.drop p).flatMap cD ++ rest) := by
                  have := Hblk.out.drew.segF cD 3 (fun _ => rfl) (p + 1) (out.drop p) (by rw [List.length_drop, List.length_append, List.length_singleton]; omega)
                  rw [shift_seg out _ hpo] at this
                  exact this
                have Q5 : Blk (w1.drew.setCells g ((p + 1) * 3) ((out.drop p).flatMap cD)) wr.heap.size 53 [.int .i64 x, .int .i64 y, .bool z] := (setCells_far _ _ _ _ Hgq.out).trans Q3
                have Q5c := Q5.c3
                have hB6 : Below w.heap.size w (w1.drew.setCells g ((p + 1) * 3) ((out.drop p).flatMap cD)) := bl_setCells (bl_drew Hb5.out) hBg _ _
                have hfin := hsegW.setF cD 3 (fun _ => rfl) (i := p) (by rw [List.length_append, List.length_take, List.length_drop]; omega) (x, y, z)
                rw [shift_set' out (x, y, z) hpo] at hfin
                have hlen2 : (out.take p ++ (x, y, z) :: out.drop p).length = m + 1 := by rw [List.length_append, List.length_cons, List.length_take, List.length_drop]; have := Hm.out; omega
                have hI : ∀ c ∈ out.take p ++ (x, y, z) :: out.drop p, I64 c.1 ∧ I64 c.2.1 := fun c hc => by
                  rcases List.mem_append.1 hc with hc | hc
                  · exact Hog.out c (List.mem_append_left _ (List.mem_of_mem_take hc))
                  · rcases List.mem_cons.1 hc with rfl | hc
                    · exact ⟨g1, g2⟩
                    · exact Hog.out c (List.mem_append_left _ (List.mem_of_mem_drop hc))
                have hsz2 : ((out.take p ++ (x, y, z) :: out.drop p).flatMap cD ++ rest).length = cap * 3 := by
                  have h1 := Hsz.out
                  rw [List.length_append, flatMap_len cD 3 (fun _ => rfl)] at h1 ⊢
                  rw [hlen2]
                  rw [show (out ++ [((0 : Int), (0 : Int), false)]).length = m + 1 by rw [List.length_append, ← Hm.out]; rfl] at h1
                  exact h1
                have hown := Blk.ownD' (B := w.heap.size) hfin hBg (by rw [hlen2]; exact hcl) hcm hsz2 hI
                rw [hlen2] at hown
                have Hown := Lib.hid hown
                have hlt2 : p * 3 + 2 < ((out.take (p + 1) ++ out.drop p).flatMap cD ++ rest).length := by rw [List.length_append, flatMap_len cD 3 (fun _ => rfl)]; simp; omega
                obtain ⟨u0, hu0⟩ : ∃ u, (w1.drew.setCells g ((p + 1) * 3) ((out.drop p).flatMap cD)).cell? ⟨g, p * 3, none⟩ = some u := ⟨_, (hsegW.cell _).trans (List.getElem?_eq_getElem (by omega))⟩
                obtain ⟨u1, hu1⟩ : ∃ u, (w1.drew.setCells g ((p + 1) * 3) ((out.drop p).flatMap cD)).cell? ⟨g, p * 3 + 1, none⟩ = some u := ⟨_, (hsegW.cell _).trans (List.getElem?_eq_getElem (by omega))⟩
                obtain ⟨u2, hu2⟩ : ∃ u, (w1.drew.setCells g ((p + 1) * 3) ((out.drop p).flatMap cD)).cell? ⟨g, p * 3 + 2, none⟩ = some u := ⟨_, (hsegW.cell _).trans (List.getElem?_eq_getElem hlt2)⟩
                have f0 := hsegW.frozen (p * 3)
                have f1 := hsegW.frozen (p * 3 + 1)
                have f2 := hsegW.frozen (p * 3 + 2)
                have HB7 := Lib.hid (bl_set (bl_set (bl_set hB6 (p := ⟨g, p * 3, none⟩) hBg (.int .i64 x)) (p := ⟨g, p * 3 + 1, none⟩) hBg (.int .i64 y)) (p := ⟨g, p * 3 + 2, none⟩) hBg (.bool z))
                clear hsegW Q5 hB6 hfin hlen2 hI hsz2 hown hlt2 Q3 Q3c
                have ht1 : ((p : Int) + 1).toNat = p + 1 := by omega
                have ht2 : (0 : Int) ≤ (p : Int) + 1 := by omega
                have ht3 : p + 1 ≤ m + 1 := by omega
                have ht4 : p ≤ m + 1 := by omega
                have ht5 : (p : Int) + 1 ≤ (m : Int) + 1 := by omega
                have ht6 : (p : Int) ≤ (m : Int) + 1 := by omega
                go_region_held3 (fun _ => True) (trivial)
                  (first | (refine step_copy_ (by rfl) (.tmp 52) (.tmp 55) 46 (by rfl) (by rfl) (by rfl) (copy_shiftD (z := (0, 0, false)) Hblk.out.drew hpo _ _ _ (by have := Hm.out; omega) (by have := Hm.out; omega) (by omega) (by omega)) ?_; skip))
                all_goals (go_wp2_with fail; go_roundw; (case rel => exact ⟨k + 1, by omega, by go_num, by rw [Hsn2.out]; exact Hown.out, HB7.out⟩); (case measure => simp [intOf]; omega))
              · have hpm3 : p = m := by omega
                have hpo : out.length = p := by have := Hm.out; omega
                have hsegW : Blk w1 g 53 ((out ++ [((0 : Int), (0 : Int), false)]).flatMap cD ++ rest) := Hblk.out
                have hseg2 : Blk w1.drew g 53 ((out ++ [((0 : Int), (0 : Int), false)]).flatMap cD ++ rest) := Hblk.out.drew
                have hB6 : Below w.heap.size w w1.drew := bl_drew Hb5.out
                have hfin := hseg2.setF cD 3 (fun _ => rfl) (i := p) (by rw [List.length_append, List.length_singleton]; omega) (x, y, z)
                have hss := snoc_set' out ((0 : Int), (0 : Int), false) (x, y, z)
                rw [hpo] at hss
                rw [hss] at hfin
                have hlen2 : (out.take p ++ (x, y, z) :: out.drop p).length = m + 1 := by rw [List.length_append, List.length_cons, List.length_take, List.length_drop]; have := Hm.out; omega
                have hI : ∀ c ∈ out.take p ++ (x, y, z) :: out.drop p, I64 c.1 ∧ I64 c.2.1 := fun c hc => by
                  rcases List.mem_append.1 hc with hc | hc
                  · exact Hog.out c (List.mem_append_left _ (List.mem_of_mem_take hc))
                  · rcases List.mem_cons.1 hc with rfl | hc
                    · exact ⟨g1, g2⟩
                    · exact Hog.out c (List.mem_append_left _ (List.mem_of_mem_drop hc))
                have hsz2 : ((out.take p ++ (x, y, z) :: out.drop p).flatMap cD ++ rest).length = cap * 3 := by
                  have h1 := Hsz.out
                  rw [List.length_append, flatMap_len cD 3 (fun _ => rfl)] at h1 ⊢
                  rw [hlen2]
                  rw [show (out ++ [((0 : Int), (0 : Int), false)]).length = m + 1 by rw [List.length_append, ← Hm.out]; rfl] at h1
                  exact h1
                have hown := Blk.ownD' (B := w.heap.size) hfin hBg (by rw [hlen2]; exact hcl) hcm hsz2 hI
                rw [hlen2] at hown
                have Hown := Lib.hid hown
                have hlt2 : p * 3 + 2 < ((out ++ [((0 : Int), (0 : Int), false)]).flatMap cD ++ rest).length := by rw [List.length_append, flatMap_len cD 3 (fun _ => rfl)]; simp; omega
                obtain ⟨u0, hu0⟩ : ∃ u, w1.cell? ⟨g, p * 3, none⟩ = some u := ⟨_, (hsegW.cell _).trans (List.getElem?_eq_getElem (by omega))⟩
                obtain ⟨u1, hu1⟩ : ∃ u, w1.cell? ⟨g, p * 3 + 1, none⟩ = some u := ⟨_, (hsegW.cell _).trans (List.getElem?_eq_getElem (by omega))⟩
                obtain ⟨u2, hu2⟩ : ∃ u, w1.cell? ⟨g, p * 3 + 2, none⟩ = some u := ⟨_, (hsegW.cell _).trans (List.getElem?_eq_getElem hlt2)⟩
                have f0 := hsegW.frozen (p * 3)
                have f1 := hsegW.frozen (p * 3 + 1)
                have f2 := hsegW.frozen (p * 3 + 2)
                have HB7 := Lib.hid (bl_set (bl_set (bl_set hB6 (p := ⟨g, p * 3, none⟩) hBg (.int .i64 x)) (p := ⟨g, p * 3 + 1, none⟩) hBg (.int .i64 y)) (p := ⟨g, p * 3 + 2, none⟩) hBg (.bool z))
                clear hsegW hseg2 hB6 hfin hlen2 hI hsz2 hown hlt2 Q3 hss
                have HPM := Lib.hid hpm3
                have ht1 : ((p : Int) + 1).toNat = p + 1 := by omega
                have ht2 : (0 : Int) ≤ (p : Int) + 1 := by omega
                have ht3 : p + 1 ≤ m + 1 := by omega
                have ht4 : p ≤ m + 1 := by omega
                have ht5 : (p : Int) + 1 ≤ (m : Int) + 1 := by omega
                have ht6 : (p : Int) ≤ (m : Int) + 1 := by omega
                clear hpm3 hpo
                by_cases hc1 : cap = p + 1
                · subst hc1
                  have hc2 : ¬ p + 1 = p := by omega
                  go_region_held3 (fun _ => True) (trivial)
                    (first | (refine step_copy_ (by rfl) (.tmp 52) (.tmp 55) 46 (by rfl) (by rfl) (by rfl) (run_copy_zero (P := Try.prog) _ 46 46 _ 53 3 _ _ _ _ _ _ Try.underlying46 info_szD (Nat.le_antisymm (Nat.le_trans (Nat.min_le_right _ _) (by have := HPM.out; omega)) (Nat.zero_le _))) ?_; skip))
                  all_goals (go_wp2_with fail; go_roundw; (case rel => exact ⟨k + 1, by omega, by go_num, by rw [Hsn2.out]; exact Hown.out, HB7.out⟩); (case measure => simp [intOf]; omega))
                · have hc2 : ¬ cap = p := by have := HPM.out; omega
                  go_region_held3 (fun _ => True) (trivial)
                    (first | (refine step_copy_ (by rfl) (.tmp 52) (.tmp 55) 46 (by rfl) (by rfl) (by rfl) (run_copy_zero (P := Try.prog) _ 46 46 _ 53 3 _ _ _ _ _ _ Try.underlying46 info_szD (Nat.le_antisymm (Nat.le_trans (Nat.min_le_right _ _) (by have := HPM.out; omega)) (Nat.zero_le _))) ?_; skip))
                  all_goals (go_wp2_with fail; go_roundw; (case rel => exact ⟨k + 1, by omega, by go_num, by rw [Hsn2.out]; exact Hown.out, HB7.out⟩); (case measure => simp [intOf]; omega))
    · have htk : l.take k = l := List.take_of_length_le (by have := HN.out; omega)
      rw [htk] at own
      have HO := Lib.hid own
      clear own htk
      go_wp2_with fail
      go_ret
      exact ⟨_, rfl, HO.out, hB⟩
theorem wpList_apsD {w : World} {ops : Array Oper} {rest : List Oper} {o : Oper} {a : Act} {Q : Exit → Act → World → Prop} (hgd : o.guard = none) (s x : Operand) (ho : o.op = .call { callee := .builtin .append, args := #[s, x], argTypes := #[46, 46] })
    (B : Nat) (v : Value) (l m : List Dm) (A : Option Addr) (c : Nat) (hs : a.eval s = v) (n : Nat) (hx : a.eval x = .slice A n c) (hown : OwD B w v l) (hr : RdD w A m) (hnm : n = m.length) (hB : B ≤ w.heap.size) (hn : l.length ≤ 1048576) (hm : m.length ≤ 1048576)
    (h : ∀ v' w1, OwD B w1 v' (l ++ m) → (∀ w0, Below B w0 w → Below B w0 w1) → wpList Try.prog ops Q rest (a.put o.dst v') w1) :
    wpList Try.prog ops Q (o :: rest) a w := by
  subst hnm
  obtain ⟨_, o1, o2⟩ := hown
  refine wpList_append_src (P := Try.prog) hgd s x 46 ho B 53 (.agg #[.int .i64 0, .int .i64 0, .bool false]) 3 24 Try.underlying46 (by kernel_rfl) rfl (by decide) (by decide) v l.length (l.flatMap cD) hs o1 A m.length c (m.flatMap cD) hx hr.1 flat_oneD hn hm hB (fun v' w1 g1 g2 g3 => ?_)
  rw [← List.length_append, ← List.flatMap_append] at g1
  exact h v' w1 ⟨own_form g1, g1, fun y hy => (List.mem_append.1 hy).elim (o2 y) (hr.2 y)⟩ (fun w0 hb => hb.grown g2 hB (fun k hk => (o1.lt k hk).1))
theorem RdD.nil_ (w : World) (A : Option Addr) : RdD w A [] := ⟨⟨by simp, fun h => absurd h (by simp)⟩, by simp⟩
theorem RdD.take_ {w : World} {A : Option Addr} {l : List Dm} (h : RdD w A l) {k : Nat} (hk : k ≤ l.length) : RdD w A (l.take k) := by
  have h1 := h.1.take (k := k) hk
  have e := flat_take cD 3 (fun _ => rfl) l hk []
  rw [List.append_nil] at e
  rw [e] at h1
  refine ⟨?_, fun x hx => h.2 x (List.mem_of_mem_take hx)⟩
  rw [List.length_take, Nat.min_eq_left hk]; exact h1
theorem RdD.cut_ {w : World} {g : Nat} {l : List Dm} (h : RdD w (some ⟨g, 0, none⟩) l) {k cap : Nat} (hk : k ≤ l.length) (hc : l.length ≤ cap) (hne : ¬ cap = k) : RdD w (some ⟨g, k * 3, none⟩) (l.drop k) := by
  have h1 := h.1.cut (k := k) hk hc
  have e := flat_drop cD 3 (fun _ => rfl) l hk []
  rw [List.append_nil, List.append_nil] at e
  rw [e, if_neg hne] at h1
  refine ⟨?_, fun x hx => h.2 x (List.mem_of_mem_drop hx)⟩
  rw [List.length_drop]
  have e2 : (some (⟨g, 0, none⟩ : Addr)).map (·.add (k * 3)) = some ⟨g, k * 3, none⟩ := by simp [Addr.add_lit]
  rw [e2] at h1
  exact h1
set_option maxRecDepth 100000 in
set_option maxHeartbeats 1000000 in
theorem SortDominoes_s (A : Option Addr) (N c : Nat) (l : List Dm) (w : World) (hN : N = l.length) (hl : N ≤ 1048576) (hr : RdD w A l) :
    Calls Try.prog 114 #[.slice A N c] w fun e w' => ∃ v, e = .returned v ∧ OwD w.heap.size w' v (sortD l) ∧ Below w.heap.size w w' := by
  have HN := Lib.hid hN
  have hr' := Lib.hid hr
  have ho := Lib.hid (OwD.new_ (B := w.heap.size) (w := w) (Nat.le_refl _))
  have hB0 := bl_alloc (Below.refl w.heap.size w) (.cells #[] 53)
  have he := eq_dom
  clear hN hr
  go_enter Try.func114, Try.ntmps114
  go_wp2_with fail
  go_loopw [3, 4] (fun v i wr => ∃ k : Nat, k ≤ N ∧ i = .int .i64 k ∧ (∃ g n c, v = .slice (some ⟨g, 0, none⟩) n c) ∧ OwD w.heap.size wr v (sortD (l.take k)) ∧ Below w.heap.size w wr) (fun _ i _ => N - (intOf i).toNat)
  case atStart => exact ⟨0, by omega, rfl, ⟨_, _, _, rfl⟩, ho.out, hB0⟩
  case round =>
    obtain ⟨k, hk, rfl, ⟨g, m, cap, rfl⟩, own, hB⟩ := hrel
    clear ho hB0
    by_cases hlt : k < N
    · obtain ⟨b, off, x, y, z, rfl, hbl, hv, hd, g1, g2, c0, c1, c2⟩ := hr'.out.at_ (k := k) (by have := HN.out; omega)
      have hsn := sortD_snoc hv
      obtain ⟨out, hout⟩ : ∃ out, out = sortD (l.take k) := ⟨_, rfl⟩
      rw [← hout] at own hsn
      have Hsor := Lib.hid (show Sor out by rw [hout]; exact sortD_sor _)
      have hok2 : out.length ≤ k := by rw [hout]; have := sortD_len (l.take k); rw [List.length_take] at this; omega
      have hol : out.length ≤ 1048576 := by omega
      have hm : m = out.length := by obtain ⟨⟨A', c', e⟩, _⟩ := own; injection e
      have hmb : m ≤ 1048576 := by omega
      have hmc : m ≤ cap := by
        rcases own.2.1.2 with ⟨e, _⟩ | ⟨g', cap', cur, e, _, _, hnc, _⟩
        · cases e
        · injection e with e1 e2 e3; rw [hm, e3]; exact hnc
      have Hm := Lib.hid hm
      have f0 := (bcell hB).1 b (off + k * 3) hbl
      have f1 := (bcell hB).1 b (off + k * 3 + 1) hbl
      have f2 := (bcell hB).1 b (off + k * 3 + 2) hbl
      rw [c0] at f0
      rw [c1] at f1
      rw [c2] at f2
      have HO := Lib.hid own
      clear hv hd own hout hm
      cases hok : domOk x y z
      · have OK := Lib.hid hok
        have Hsn := Lib.hid (show sortD (l.take (k + 1)) = out by rw [hsn, addD, if_neg (by unfold okD; dsimp only; rw [hok]; decide)])
        clear hok hsn
        go_wp2_with (go_at_call 168; refine (DominoOk_s x y z _).mono ?_; rintro e wn ⟨rfl, hbn⟩; have hSz := bl_sz (bl_trans hB (by go_grown)) hbn; replace hB := bl_trans (bl_trans hB (by go_grown)) hbn; rw [OK.out]; replace HO := Lib.hid (HO.out.bel hbn); clear hbn)
        go_roundw
        case rel => exact ⟨k + 1, by omega, by go_num, ⟨_, _, _, rfl⟩, by rw [Hsn.out]; exact HO.out, hB⟩
        case measure => simp [intOf]; omega
      · have OK := Lib.hid hok
        have o1 : okD (x, y, z) = true := hok
        have hins : sortD (l.take (k + 1)) = insD out (x, y, z) := by rw [hsn, addD, if_pos o1]
        rw [insD_at Hsor.out o1] at hins
        have Hins := Lib.hid hins
        clear hok hsn hins f0 f1 f2
        have f0 := (bcell hB).1 b (off + k * 3) hbl
        have f1 := (bcell hB).1 b (off + k * 3 + 1) hbl
        have f2 := (bcell hB).1 b (off + k * 3 + 2) hbl
        rw [c0] at f0
        rw [c1] at f1
        rw [c2] at f2
        go_upto_block 2 with (go_at_call 168; refine (DominoOk_s x y z _).mono ?_; rintro e wo ⟨rfl, hbn⟩; have hSz := bl_sz (bl_trans hB (by go_grown)) hbn; replace hB := bl_trans (bl_trans hB (by go_grown)) hbn; rw [OK.out]; replace HO := Lib.hid (HO.out.bel hbn); clear hbn)
        have HO2 := HO
        have hBo := hB
        clear hB HO f0 f1 f2
        go_cut [5] from 20 to 36 (fun q wr' => q = .int .i64 (atD out (x, y, z) m 0) ∧ Below wo.heap.size wo wr')
        case first =>
          go_wp2_with fail
          go_loopw [5] (fun q wr' => ∃ j : Nat, j ≤ m ∧ q = .int .i64 j ∧ Hid (atD out (x, y, z) (m - j) j = atD out (x, y, z) m 0) ∧ Below wo.heap.size wo wr') (fun q _ => m - (intOf q).toNat)
          case atStart => exact ⟨0, by omega, rfl, Lib.hid rfl, Below.refl _ _⟩
          case round =>
            obtain ⟨j, hj, rfl, HP, hB2⟩ := hrel
            by_cases hjm : j < m
            · have hd : decide ((j : Int) < (m : Int)) = true := by simp; omega
              have hBw := hBo.trans (hB2.mono hBo.size)
              obtain ⟨b5, off5, a1, a2, a3, hA5, hbl5, hv5, _, ga, gb, e0, e1, e2⟩ := (HO2.out.rd.below hB2).at_ (k := j) (by have := Hm.out; omega)
              injection hA5 with hA5
              injection hA5 with hA5 hA6
              subst hA5
              subst hA6
              simp only [Nat.zero_add] at e0 e1 e2
              have f0 := (bcell hBw).1 b (off + k * 3) hbl
              have f1 := (bcell hBw).1 b (off + k * 3 + 1) hbl
              have f2 := (bcell hBw).1 b (off + k * 3 + 2) hbl
              rw [c0] at f0
              rw [c1] at f1
              rw [c2] at f2
              have q0 := bq_cell e0
              have q1 := bq_cell e1
              have q2 := bq_cell e2
              have q3 := bq_cell f0
              have q4 := bq_cell f1
              have q5 := bq_cell f2
              have hca := dAt_eq hv5
              have hstep : atD out (x, y, z) (m - j) j = if befD (a1, a2, a3) (x, y, z) then atD out (x, y, z) (m - (j + 1)) (j + 1) else j := by rw [show m - j = (m - (j + 1)) + 1 by omega, atD, hca]
              rw [HP.out] at hstep
              have Hst := Lib.hid hstep
              clear hv5 hca hstep e0 e1 e2 f0 f1 f2
              cases y1 : befD (a1, a2, a3) (x, y, z)
              · have Y1 := Lib.hid y1
                have Hst2 := Lib.hid (show atD out (x, y, z) m 0 = j by rw [Hst.out, y1]; rfl)
                clear y1
                go_wp2_with fail
                (refine wp_region_quiet_bel (by kernel_rfl) (by kernel_rfl) ?_; (repeat (first | go_big_quiet_step ((go_at_call 189; exact Calls.bel_of ((IsDominoBefore_s a1 a2 a3 x y z _).mono (fun e w' h => ⟨h.1.trans (ret_bool Y1.out), h.2⟩)))) | quiet_step ((go_at_call 189; exact Calls.bel_of ((IsDominoBefore_s a1 a2 a3 x y z _).mono (fun e w' h => ⟨h.1.trans (ret_bool Y1.out), h.2⟩)))))); refine wpQuiet_nil ?_; intro wq hw0; obtain ⟨⟨_, hbq⟩, hw1⟩ := hw0; subst hw1; try dsimp only)
                go_wp2_with fail
                go_meet
                refine ⟨?_, bl_trans hB2 hbq⟩
                rw [Hst2.out]
              · have Y1 := Lib.hid y1
                have Hst2 := Lib.hid (show atD out (x, y, z) (m - (j + 1)) (j + 1) = atD out (x, y, z) m 0 by rw [Hst.out, y1]; rfl)
                clear y1
                go_wp2_with fail
                (refine wp_region_quiet_bel (by kernel_rfl) (by kernel_rfl) ?_; (repeat (first | go_big_quiet_step ((go_at_call 189; exact Calls.bel_of ((IsDominoBefore_s a1 a2 a3 x y z _).mono (fun e w' h => ⟨h.1.trans (ret_bool Y1.out), h.2⟩)))) | quiet_step ((go_at_call 189; exact Calls.bel_of ((IsDominoBefore_s a1 a2 a3 x y z _).mono (fun e w' h => ⟨h.1.trans (ret_bool Y1.out), h.2⟩)))))); refine wpQuiet_nil ?_; intro wq hw0; obtain ⟨⟨_, hbq⟩, hw1⟩ := hw0; subst hw1; try dsimp only)
                go_wp2_with fail
                go_roundw
                case rel => exact ⟨j + 1, by omega, by go_num, Hst2, bl_trans hB2 hbq⟩
                case measure => simp [intOf]; omega
            · have hd : decide ((j : Int) < (m : Int)) = false := by simp; omega
              have Hst2 := Lib.hid (show atD out (x, y, z) m 0 = j by rw [← HP.out, show m - j = 0 by omega]; rfl)
              go_wp2_with fail
              (refine wp_region_quiet_bel (by kernel_rfl) (by kernel_rfl) ?_; (repeat (first | go_big_quiet_step (fail) | quiet_step (fail))); refine wpQuiet_nil ?_; intro wq hw0; obtain ⟨⟨_, hbq⟩, hw1⟩ := hw0; subst hw1; try dsimp only)
              go_wp2_with fail
              go_meet
              refine ⟨?_, bl_trans hB2 hbq⟩
              rw [Hst2.out]
        case rest =>
          obtain ⟨rfl, hB2⟩ := hcut
          rw [← Hm.out] at Hins
          have hpm : atD out (x, y, z) m 0 ≤ m := by have := (atD_spec out (x, y, z) m 0).2.1; omega
          obtain ⟨p, hp⟩ : ∃ p, p = atD out (x, y, z) m 0 := ⟨_, rfl⟩
          rw [← hp] at Hins hpm ⊢
          clear hp
          go_upto_region 9 with fail
          go_cut [51] from 37 to 51 (fun q wr' => q = .bool (decide (p < m ∧ dAt out p = (x, y, z))) ∧ Below wo.heap.size wo wr')
          case first =>
            by_cases h0 : p < m
            · have hd : decide ((p : Int) < (m : Int)) = true := by simp; omega
              have hBw := hBo.trans (hB2.mono hBo.size)
              obtain ⟨b5, off5, a1, a2, a3, hA5, hbl5, hv5, _, ga, gb, e0, e1, e2⟩ := (HO2.out.rd.below hB2).at_ (k := p) (by have := Hm.out; omega)
              injection hA5 with hA5
              injection hA5 with hA5 hA6
              subst hA5
              subst hA6
              simp only [Nat.zero_add] at e0 e1 e2
              have f0 := (bcell hBw).1 b (off + k * 3) hbl
              have f1 := (bcell hBw).1 b (off + k * 3 + 1) hbl
              have f2 := (bcell hBw).1 b (off + k * 3 + 2) hbl
              rw [c0] at f0
              rw [c1] at f1
              rw [c2] at f2
              have q0 := bq_cell e0
              have q1 := bq_cell e1
              have q2 := bq_cell e2
              have q3 := bq_cell f0
              have q4 := bq_cell f1
              have q5 := bq_cell f2
              have hca := dAt_eq hv5
              have hbe := dom_beq a1 a2 x y a3 z
              have Hq := Lib.hid (show decide (p < m ∧ dAt out p = (x, y, z)) = decide ((a1, a2, a3) = (x, y, z)) by rw [hca]; apply decide_eq_decide.2; simp [h0])
              clear hv5 hca e0 e1 e2 f0 f1 f2
              by_cases heq : (a1, a2, a3) = (x, y, z)
              · have hde : decide ((a1, a2, a3) = (x, y, z)) = true := decide_eq_true heq
                have hbe' : (a1 == x && a2 == y && a3 == z) = true := by rw [hbe]; exact hde
                have Hde := Lib.hid hde
                clear heq hbe hde
                (refine wp_region_quiet_bel (by kernel_rfl) (by kernel_rfl) ?_; (repeat (first | go_big_quiet_step (fail) | quiet_step (fail))); refine wpQuiet_nil ?_; intro wq hw0; obtain ⟨⟨_, hbq⟩, hw1⟩ := hw0; subst hw1; try dsimp only)
                go_wp2_with fail
                go_meet
                exact ⟨by rw [Hq.out, Hde.out], bl_trans hB2 hbq⟩
              · have hde : decide ((a1, a2, a3) = (x, y, z)) = false := decide_eq_false heq
                have hbe' : (a1 == x && a2 == y && a3 == z) = false := by rw [hbe]; exact hde
                have Hde := Lib.hid hde
                clear heq hbe hde
                (refine wp_region_quiet_bel (by kernel_rfl) (by kernel_rfl) ?_; (repeat (first | go_big_quiet_step (fail) | quiet_step (fail))); refine wpQuiet_nil ?_; intro wq hw0; obtain ⟨⟨_, hbq⟩, hw1⟩ := hw0; subst hw1; try dsimp only)
                go_wp2_with fail
                go_meet
                exact ⟨by rw [Hq.out, Hde.out], bl_trans hB2 hbq⟩
            · have hd : decide ((p : Int) < (m : Int)) = false := by simp; omega
              (refine wp_region_quiet_bel (by kernel_rfl) (by kernel_rfl) ?_; (repeat (first | go_big_quiet_step (fail) | quiet_step (fail))); refine wpQuiet_nil ?_; intro wq hw0; obtain ⟨⟨_, hbq⟩, hw1⟩ := hw0; subst hw1; try dsimp only)
              go_wp2_with fail
              go_meet
              exact ⟨by simp [h0], bl_trans hB2 hbq⟩
          case rest =>
            obtain ⟨rfl, hB3⟩ := hcut
            clear hB2
            have hB2 := hB3
            clear hB3
            obtain ⟨wq, rfl⟩ : ∃ wq : World, wq = wc := ⟨_, rfl⟩
            have HO4 := Lib.hid (HO2.out.bel hB2)
            have hBq := hBo.trans (hB2.mono hBo.size)
            by_cases heq : p < m ∧ dAt out p = (x, y, z)
            · have Hsn := Lib.hid (show sortD (l.take (k + 1)) = out by rw [Hins.out, if_pos heq])
              rw [decide_eq_true heq]
              clear heq Hins
              go_wp2_with fail
              go_roundw
              case rel => exact ⟨k + 1, by omega, by go_num, ⟨_, _, _, rfl⟩, by rw [Hsn.out]; exact HO4.out, hBq⟩
              case measure => simp [intOf]; omega
            · have Hsn2 := Lib.hid (show sortD (l.take (k + 1)) = out.take p ++ (x, y, z) :: out.drop p by rw [Hins.out, if_neg heq])
              rw [decide_eq_false heq]
              clear heq Hins
              have Ow0 := Lib.hid (OwD.new_ (B := wq.heap.size) (w := wq) (Nat.le_refl _))
              have hrd := HO4.out.rd
              have HT0 := Lib.hid (hrd.take_ (k := p) (by have := Hm.out; omega))
              have hpl : p = (out.take p).length := by rw [List.length_take]; have := Hm.out; omega
              have htl : (out.take p).length ≤ 1048576 := by omega
              have hdl : m - p = (out.drop p).length := by rw [List.length_drop]; have := Hm.out; omega
              have hdl2 : (out.drop p).length ≤ 1048576 := by omega
              have htl2 : (out.take p ++ [(x, y, z)]).length ≤ 1048576 := by rw [List.length_append, List.length_singleton, List.length_take]; omega
              by_cases hcp : cap = p
              · have hz : out.drop p = [] := List.drop_eq_nil_of_le (by have := Hm.out; omega)
                have HD0 := Lib.hid (show RdD wq (some ⟨g, 0, none⟩) (out.drop p) by rw [hz]; exact RdD.nil_ _ _)
                have HPL := Lib.hid hpl
                have HDL := Lib.hid hdl
                clear hz hrd hpl hdl
                subst hcp
                go_wp2_with (first
                  | (at_builtin; refine wpList_apsD rfl (.tmp 52) (.tmp 55) rfl wq.heap.size _ [] (out.take cap) _ _ rfl cap rfl Ow0.out (HT0.out.below (by go_grown)) HPL.out (by simp) (by simp) htl ?_; intro v1 w1 o1 b1; have hbA := b1 wq (by go_grown); have O1 := Lib.hid o1; have s1 := hbA.size; have k0 := (bcell (hBq.trans (hbA.mono hBq.size))).1 b (off + k * 3) hbl; have k1 := (bcell (hBq.trans (hbA.mono hBq.size))).1 b (off + k * 3 + 1) hbl; have k2 := (bcell (hBq.trans (hbA.mono hBq.size))).1 b (off + k * 3 + 2) hbl; rw [c0] at k0; rw [c1] at k1; rw [c2] at k2; clear o1 b1)
                  | (at_builtin; refine wpList_atD rfl (.tmp 57) (.tmp 62) rfl wq.heap.size v1 (out.take cap) x y z rfl rfl (by simpa using O1.out) s1 htl g1 g2 ?_; intro v2 w2 o2 b2 gr2 at2 s2; have hbB := b2 _ hbA; have O2 := Lib.hid o2; have s3 := hbB.size; clear o2 b2 gr2 at2 k0 k1 k2)
                  | (at_builtin; refine wpList_apsD rfl (.tmp 64) (.tmp 67) rfl wq.heap.size v2 (out.take cap ++ [(x, y, z)]) (out.drop cap) _ _ rfl 0 rfl O2.out (HD0.out.below hbB) (by have := HDL.out; omega) s3 htl2 hdl2 ?_; intro v3 w3 o3 b3; have hbC := b3 _ hbB; have O3 := Lib.hid o3; clear o3 b3))
                go_roundw
                case rel => exact ⟨k + 1, by omega, by go_num, (by obtain ⟨g', c', r', e', _⟩ := O3.out.blk' (by simp); exact ⟨_, _, _, e'⟩), by rw [Hsn2.out]; have := O3.out.mono (B' := w.heap.size) hBq.size; simpa using this, hBq.trans (hbC.mono hBq.size)⟩
                case measure => simp [intOf]; omega
              · have HD0 := Lib.hid (hrd.cut_ (k := p) (cap := cap) (by have := Hm.out; omega) (by have := Hm.out; omega) hcp)
                have HPL := Lib.hid hpl
                have HDL := Lib.hid hdl
                clear hrd hpl hdl
                go_wp2_with (first
                  | (at_builtin; refine wpList_apsD rfl (.tmp 52) (.tmp 55) rfl wq.heap.size _ [] (out.take p) _ _ rfl p rfl Ow0.out (HT0.out.below (by go_grown)) HPL.out (by simp) (by simp) htl ?_; intro v1 w1 o1 b1; have hbA := b1 wq (by go_grown); have O1 := Lib.hid o1; have s1 := hbA.size; have k0 := (bcell (hBq.trans (hbA.mono hBq.size))).1 b (off + k * 3) hbl; have k1 := (bcell (hBq.trans (hbA.mono hBq.size))).1 b (off + k * 3 + 1) hbl; have k2 := (bcell (hBq.trans (hbA.mono hBq.size))).1 b (off + k * 3 + 2) hbl; rw [c0] at k0; rw [c1] at k1; rw [c2] at k2; clear o1 b1)
                  | (at_builtin; refine wpList_atD rfl (.tmp 57) (.tmp 62) rfl wq.heap.size v1 (out.take p) x y z rfl rfl (by simpa using O1.out) s1 htl g1 g2 ?_; intro v2 w2 o2 b2 gr2 at2 s2; have hbB := b2 _ hbA; have O2 := Lib.hid o2; have s3 := hbB.size; clear o2 b2 gr2 at2 k0 k1 k2)
                  | (at_builtin; refine wpList_apsD rfl (.tmp 64) (.tmp 67) rfl wq.heap.size v2 (out.take p ++ [(x, y, z)]) (out.drop p) _ _ rfl (m - p) rfl O2.out (HD0.out.below hbB) HDL.out s3 htl2 hdl2 ?_; intro v3 w3 o3 b3; have hbC := b3 _ hbB; have O3 := Lib.hid o3; clear o3 b3))
                go_roundw
                case rel => exact ⟨k + 1, by omega, by go_num, (by obtain ⟨g', c', r', e', _⟩ := O3.out.blk' (by simp); exact ⟨_, _, _, e'⟩), by rw [Hsn2.out]; have := O3.out.mono (B' := w.heap.size) hBq.size; simpa using this, hBq.trans (hbC.mono hBq.size)⟩
                case measure => simp [intOf]; omega
    · have htk : l.take k = l := List.take_of_length_le (by have := HN.out; omega)
      rw [htk] at own
      have HO := Lib.hid own
      clear own htk
      go_wp2_with fail
      go_ret
      exact ⟨_, rfl, HO.out, hB⟩
end Go.Proofs.Ytdcjhfmkkcakhaa

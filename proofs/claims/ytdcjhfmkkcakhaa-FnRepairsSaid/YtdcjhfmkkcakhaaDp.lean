/-
  The count of domino tilings cell by cell (a plain model of the profile): it is the number of coverings by two-cell tiles, modulo 2^64. No program in sight.
-/
import Derived.Test.YtdcjhfmkkcakhaaCovL
namespace Go.Proofs.Ytdcjhfmkkcakhaa
open Go.ChangeShapes Go.WideShapes Go.ChangeAt Go.RowKit Go.Deep
set_option linter.unusedVariables false

/-- the states that a state leads to at a cell -/
def trans (R k s : Nat) : List Nat :=
  if R.testBit k then
    if s.testBit (k % 8) then [s - 2 ^ (k % 8)]
    else (if R.testBit (k + 8) then [s ||| 2 ^ (k % 8)] else []) ++ (if (decide (k % 8 < 7) && (R.testBit (k + 1) && !s.testBit (k % 8 + 1))) then [s ||| 2 ^ (k % 8 + 1)] else [])
  else if s.testBit (k % 8) then [] else [s]
def addAt (l : List Int) (i : Nat) (n : Int) : List Int := l.set i (wrap64 (l.getD i 0 + n))
theorem addAt_len (l : List Int) (i : Nat) (n : Int) : (addAt l i n).length = l.length := by simp [addAt]
def putAll (n : Int) (l : List Int) : List Nat → List Int
  | [] => l
  | t :: ts => putAll n (addAt l t n) ts
theorem putAll_len (n : Int) : ∀ (ts : List Nat) (l : List Int), (putAll n l ts).length = l.length
  | [], _ => rfl
  | t :: ts, l => by rw [putAll, putAll_len n ts, addAt_len]
def stepS (R k : Nat) (ways next : List Int) (s : Nat) : List Int := if ways.getD s 0 = 0 then next else putAll (ways.getD s 0) next (trans R k s)
theorem stepS_len (R k : Nat) (ways next : List Int) (s : Nat) : (stepS R k ways next s).length = next.length := by unfold stepS; split; rfl; exact putAll_len _ _ _
def rowTo (R k : Nat) (ways : List Int) : Nat → List Int
  | 0 => List.replicate 256 0
  | s + 1 => stepS R k ways (rowTo R k ways s) s
theorem rowTo_len (R k : Nat) (ways : List Int) (m : Nat) : (rowTo R k ways m).length = 256 := by
  induction m with
  | zero => rw [rowTo, List.length_replicate]
  | succ m ih => rw [rowTo, stepS_len, ih]
def dpL (R : Nat) : Nat → List Int
  | 0 => (List.replicate 256 0).set 0 1
  | k + 1 => rowTo R k (dpL R k) 256
theorem dpL_len (R k : Nat) : (dpL R k).length = 256 := by
  cases k with
  | zero => rw [dpL, List.length_set, List.length_replicate]
  | succ k => exact rowTo_len _ _ _ _
def countD (R : Nat) : Int := (dpL R 64).getD 0 0
/-- the number of ways from a state on, with so many cells left -/
def wayN (R : Nat) : Nat → Nat → Int
  | 0, s => if s = 0 then 1 else 0
  | f + 1, s => ((trans R (63 - f) s).map (wayN R f)).sum
/-! ### congruence -/
def Cg (a b : Int) : Prop := ∃ m : Int, a = b + 18446744073709551616 * m
theorem Cg.rfl_ (a : Int) : Cg a a := ⟨0, by omega⟩
theorem Cg.of_eq {a b : Int} (h : a = b) : Cg a b := ⟨0, by omega⟩
theorem Cg.trans_ {a b c : Int} (h : Cg a b) (g : Cg b c) : Cg a c := by
  obtain ⟨m, h⟩ := h; obtain ⟨n, g⟩ := g; exact ⟨m + n, by omega⟩
theorem Cg.add_ {a b c d : Int} (h : Cg a b) (g : Cg c d) : Cg (a + c) (b + d) := by
  obtain ⟨m, h⟩ := h; obtain ⟨n, g⟩ := g; exact ⟨m + n, by omega⟩
theorem Cg.mul_ {a b : Int} (h : Cg a b) (c : Int) : Cg (a * c) (b * c) := by
  obtain ⟨m, h⟩ := h
  refine ⟨m * c, ?_⟩
  rw [h, Int.add_mul, Int.mul_assoc]
theorem Cg.wrap (a : Int) : Cg (wrap64 a) a := by
  refine ⟨(wrap64 a - a) / 18446744073709551616, ?_⟩
  unfold wrap64
  omega
/-! ### the sum over states -/
def dotN (l : List Int) (f : Nat → Int) : Nat → Int
  | 0 => 0
  | n + 1 => dotN l f n + l.getD n 0 * f n
theorem getD_set (l : List Int) (i j : Nat) (v : Int) (hi : i < l.length) : (l.set i v).getD j 0 = if i = j then v else l.getD j 0 := by
  simp only [List.getD_eq_getElem?_getD, List.getElem?_set]
  split
  · rename_i e; subst e; rfl
  · rfl
theorem dotN_set (l : List Int) (f : Nat → Int) (i : Nat) (v : Int) (hi : i < l.length) : ∀ n, dotN (l.set i v) f n = dotN l f n + if i < n then (v - l.getD i 0) * f i else 0
  | 0 => by simp [dotN]
  | n + 1 => by
    rw [dotN, dotN, dotN_set l f i v hi n, getD_set l i n v hi]
    by_cases h : i = n
    · subst h
      rw [if_pos rfl, if_neg (by omega), if_pos (by omega), Int.sub_mul]; omega
    · rw [if_neg h]
      by_cases h2 : i < n
      · rw [if_pos h2, if_pos (by omega)]; omega
      · rw [if_neg h2, if_neg (by omega)]; omega
theorem dotN_addAt (l : List Int) (f : Nat → Int) (i : Nat) (n : Int) (hl : l.length = 256) (hi : i < 256) : Cg (dotN (addAt l i n) f 256) (dotN l f 256 + n * f i) := by
  rw [addAt, dotN_set l f i _ (by omega), if_pos hi]
  refine (Cg.rfl_ _).add_ (Cg.mul_ ?_ _)
  obtain ⟨m, h⟩ := Cg.wrap (l.getD i 0 + n)
  exact ⟨m, by omega⟩
theorem dotN_putAll (f : Nat → Int) (n : Int) : ∀ (ts : List Nat) (l : List Int), l.length = 256 → (∀ t ∈ ts, t < 256) → Cg (dotN (putAll n l ts) f 256) (dotN l f 256 + n * (ts.map f).sum)
  | [], l, _, _ => Cg.of_eq (by simp [putAll])
  | t :: ts, l, hl, ht => by
    rw [putAll]
    refine (dotN_putAll f n ts _ (by rw [addAt_len, hl]) (fun t h => ht t (List.mem_cons_of_mem _ h))).trans_ ?_
    rw [List.map_cons, List.sum_cons, Int.mul_add, ← Int.add_assoc]
    exact (dotN_addAt l f t n hl (ht t List.mem_cons_self)).add_ (Cg.rfl_ _)
theorem trans_lt {R k s : Nat} (hs : s < 256) : ∀ t ∈ trans R k s, t < 256 := by
  have h8 : k % 8 < 8 := Nat.mod_lt _ (by decide)
  intro t ht
  have h2 : ∀ x < 8, 2 ^ x < 256 := by decide
  have hor : ∀ x < 8, s ||| 2 ^ x < 256 := fun x hx => Nat.or_lt_two_pow (n := 8) hs (h2 x hx)
  unfold trans at ht
  split at ht
  · split at ht
    · rw [List.mem_singleton] at ht; rw [ht]; exact Nat.lt_of_le_of_lt (Nat.sub_le _ _) hs
    · rcases List.mem_append.1 ht with ht | ht
      · split at ht
        · rw [List.mem_singleton] at ht; rw [ht]; exact hor _ h8
        · simp at ht
      · split at ht
        · rename_i h
          simp only [Bool.and_eq_true, decide_eq_true_eq] at h
          rw [List.mem_singleton] at ht; rw [ht]; exact hor _ (by omega)
        · simp at ht
  · split at ht
    · simp at ht
    · rw [List.mem_singleton] at ht; omega
theorem zeros_getD (m n : Nat) : (List.replicate m (0 : Int)).getD n 0 = 0 := by
  rw [List.getD_eq_getElem?_getD, List.getElem?_replicate]; split <;> rfl
theorem zeros_dot (g : Nat → Int) (m : Nat) : ∀ n, dotN (List.replicate m 0) g n = 0
  | 0 => rfl
  | n + 1 => by rw [dotN, zeros_dot g m n, zeros_getD, Int.zero_mul]; rfl
theorem rowTo_dot (R f : Nat) (ways : List Int) : ∀ m, m ≤ 256 → Cg (dotN (rowTo R (63 - f) ways m) (wayN R f) 256) (dotN ways (wayN R (f + 1)) m)
  | 0, _ => Cg.of_eq (zeros_dot _ _ _)
  | m + 1, hm => by
    rw [rowTo]
    show Cg _ (dotN ways (wayN R (f + 1)) m + ways.getD m 0 * wayN R (f + 1) m)
    have ih := rowTo_dot R f ways m (by omega)
    unfold stepS
    by_cases h0 : ways.getD m 0 = 0
    · rw [if_pos h0, h0, Int.zero_mul, Int.add_zero]; exact ih
    · rw [if_neg h0]
      refine (dotN_putAll _ _ _ _ (rowTo_len _ _ _ _) (trans_lt (by omega))).trans_ ?_
      exact ih.add_ (Cg.rfl_ _)
theorem dpL_dot (R : Nat) : ∀ k, k ≤ 64 → Cg (dotN (dpL R k) (wayN R (64 - k)) 256) (wayN R 64 0)
  | 0, _ => by
    rw [dpL, dotN_set _ _ 0 1 (by rw [List.length_replicate]; decide), if_pos (by decide), zeros_dot, zeros_getD]
    exact Cg.of_eq (by rw [show 64 - 0 = 64 from rfl]; omega)
  | k + 1, hk => by
    have h1 := rowTo_dot R (64 - (k + 1)) (dpL R k) 256 (Nat.le_refl _)
    rw [show 63 - (64 - (k + 1)) = k by omega, show 64 - (k + 1) + 1 = 64 - k by omega] at h1
    exact h1.trans_ (dpL_dot R k (by omega))
theorem dotN_one (l : List Int) : ∀ n, dotN l (wayN 0 0) (n + 1) = l.getD 0 0
  | 0 => by simp [dotN, wayN]
  | n + 1 => by rw [dotN, dotN_one l n]; simp [wayN]
theorem wayN_zero (R : Nat) : wayN R 0 = wayN 0 0 := by funext s; simp [wayN]
theorem countD_cg (R : Nat) : Cg (countD R) (wayN R 64 0) := by
  have h := dpL_dot R 64 (Nat.le_refl _)
  rw [show 64 - 64 = 0 by omega, wayN_zero, dotN_one _ 255] at h
  exact h
/-! ### the entries are 64-bit numbers -/
theorem wrap_I64 (a : Int) : I64 (wrap64 a) := by unfold wrap64; constructor <;> omega
def All64 (l : List Int) : Prop := ∀ x ∈ l, I64 x
theorem All64.addAt {l : List Int} (h : All64 l) (i : Nat) (n : Int) : All64 (addAt l i n) := by
  intro x hx
  rcases List.mem_or_eq_of_mem_set hx with hx | hx
  · exact h x hx
  · rw [hx]; exact wrap_I64 _
theorem All64.putAll (n : Int) : ∀ (ts : List Nat) {l : List Int}, All64 l → All64 (putAll n l ts)
  | [], _, h => h
  | t :: ts, _, h => All64.putAll n ts (h.addAt t n)
theorem All64.zeros (n : Nat) : All64 (List.replicate n 0) := fun x hx => by
  obtain ⟨_, rfl⟩ := List.mem_replicate.1 hx
  constructor <;> decide
theorem rowTo_64 (R k : Nat) (ways : List Int) (m : Nat) : All64 (rowTo R k ways m) := by
  induction m with
  | zero => exact All64.zeros 256
  | succ m ih =>
    rw [rowTo, stepS]
    split
    · exact ih
    · exact ih.putAll _ _
theorem dpL_64 (R k : Nat) : All64 (dpL R k) := by
  cases k with
  | zero =>
    intro x hx
    rcases List.mem_or_eq_of_mem_set hx with hx | hx
    · exact All64.zeros 256 x hx
    · rw [hx]; constructor <;> decide
  | succ k => exact rowTo_64 _ _ _ _
theorem getD_I64 {l : List Int} (h : All64 l) (i : Nat) : I64 (l.getD i 0) := by
  rw [List.getD_eq_getElem?_getD]
  cases e : l[i]? with
  | none => constructor <;> decide
  | some x => exact h x (List.mem_of_getElem? e)
theorem Cg.eq_wrap {a b : Int} (h : Cg a b) (ha : I64 a) : a = wrap64 b := by
  obtain ⟨m, h⟩ := h
  obtain ⟨h1, h2⟩ := ha
  unfold wrap64
  omega
theorem countD_wrap (R : Nat) : countD R = wrap64 (wayN R 64 0) := (countD_cg R).eq_wrap (getD_I64 (dpL_64 R 64) 0)
/-! ### the ways are the coverings -/
def mkN (p : Nat → Bool) : Nat → Nat
  | 0 => 0
  | n + 1 => mkN p n ||| (if p n then 2 ^ n else 0)
theorem mkN_bit (p : Nat → Bool) : ∀ n i, (mkN p n).testBit i = (decide (i < n) && p i)
  | 0, i => by simp [mkN]
  | n + 1, i => by
    rw [mkN, Nat.testBit_or, mkN_bit p n i]
    by_cases h : p n
    · rw [if_pos h, Nat.testBit_two_pow]
      by_cases e : n = i
      · subst e; simp [h]
      · simp only [e, decide_false, Bool.or_false]
        rw [show decide (i < n) = decide (i < n + 1) from decide_eq_decide.2 (by omega)]
    · rw [if_neg h, Nat.zero_testBit, Bool.or_false]
      by_cases e : n = i
      · subst e; simp [h]
      · rw [show decide (i < n) = decide (i < n + 1) from decide_eq_decide.2 (by omega)]
theorem mkN_lt (p : Nat → Bool) (n : Nat) : mkN p n < 2 ^ n := by
  apply Nat.lt_pow_two_of_testBit
  intro i hi
  rw [mkN_bit, decide_eq_false (by omega), Bool.false_and]
def restP (R k s j : Nat) : Bool := R.testBit j && decide (k ≤ j) && !(decide (j < k + 8) && s.testBit (j % 8))
def restN (R k s : Nat) : Nat := mkN (restP R k s) 64
theorem restN_lt (R k s : Nat) : restN R k s < 18446744073709551616 := mkN_lt _ 64
theorem bit_lt {R : Nat} (hR : R < 18446744073709551616) {j : Nat} (h : R.testBit j = true) : j < 64 := by
  cases Nat.lt_or_ge j 64 with
  | inl h => exact h
  | inr hj =>
    rw [Nat.testBit_lt_two_pow (Nat.lt_of_lt_of_le (show R < 2 ^ 64 from hR) (Nat.pow_le_pow_right (by decide) hj))] at h
    cases h
theorem restN_bit {R : Nat} (hR : R < 18446744073709551616) (k s j : Nat) : (restN R k s).testBit j = restP R k s j := by
  rw [restN, mkN_bit]
  cases h : R.testBit j
  · simp [restP, h]
  · rw [decide_eq_true (bit_lt hR h), Bool.true_and]
def Valid (R k s : Nat) : Prop := s < 256 ∧ ∀ j, k ≤ j → j < k + 8 → s.testBit (j % 8) = true → R.testBit j = true
theorem tilesL_two : ∀ k : Fin 64, tilesL 2 k.val = (if k.val % 8 < 7 then [2 ^ k.val ||| 2 ^ (k.val + 1)] else []) ++ (if k.val < 56 then [2 ^ k.val ||| 2 ^ (k.val + 8)] else []) := by decide +kernel
theorem two_or_lt {a b : Nat} (ha : a < 64) (hb : b < 64) : 2 ^ a ||| 2 ^ b < 18446744073709551616 :=
  Nat.or_lt_two_pow (n := 64) (Nat.pow_lt_pow_right (by decide) ha) (Nat.pow_lt_pow_right (by decide) hb)
theorem two_or_bit (a b i : Nat) : (2 ^ a ||| 2 ^ b).testBit i = (decide (a = i) || decide (b = i)) := by
  rw [Nat.testBit_or, Nat.testBit_two_pow, Nat.testBit_two_pow]
theorem two_sub {r a b : Nat} : (r &&& (2 ^ a ||| 2 ^ b) == (2 ^ a ||| 2 ^ b)) = (r.testBit a && r.testBit b) := by
  rw [Bool.eq_iff_iff, beq_iff_eq, Bool.and_eq_true]
  constructor
  · intro h
    exact ⟨sub_bit h a (by rw [two_or_bit]; simp), sub_bit h b (by rw [two_or_bit]; simp)⟩
  · rintro ⟨h1, h2⟩
    apply sub_of_bits
    intro i hi
    rw [two_or_bit, Bool.or_eq_true, decide_eq_true_eq, decide_eq_true_eq] at hi
    rcases hi with rfl | rfl
    · exact h1
    · exact h2
theorem or_add_back {s t x : Nat} (hb : t.testBit x = false) (e : s = 2 ^ x + t) : t ||| 2 ^ x = s := by
  have hand : 2 ^ x &&& t = 0 := by
    apply Nat.eq_of_testBit_eq
    intro j
    rw [Nat.testBit_and, Nat.testBit_two_pow, Nat.zero_testBit]
    by_cases hj : x = j
    · subst hj; simp [hb]
    · simp [hj]
  have h := BitVec.add_eq_or_of_and_eq_zero (w := (2 ^ x + t).log2 + 2) (BitVec.ofNat _ (2 ^ x)) (BitVec.ofNat _ t) (by
    apply BitVec.eq_of_toNat_eq
    simp [hand, ← Nat.and_mod_two_pow])
  have hl : 2 ^ x + t < 2 ^ ((2 ^ x + t).log2 + 2) := Nat.lt_trans Nat.lt_log2_self (Nat.pow_lt_pow_right (by decide) (by omega))
  have h2 := congrArg BitVec.toNat h
  simp only [BitVec.toNat_add, BitVec.toNat_or, BitVec.toNat_ofNat] at h2
  rw [Nat.mod_eq_of_lt (Nat.lt_of_le_of_lt (Nat.le_add_right _ _) hl), Nat.mod_eq_of_lt (Nat.lt_of_le_of_lt (Nat.le_add_left _ _) hl), Nat.mod_eq_of_lt hl] at h2
  rw [Nat.or_comm, ← h2, e]
theorem card_two0 : ∀ a b : Fin 64, (decide (a.val = b.val) || card (2 ^ a.val ||| 2 ^ b.val) == 2) = true := by decide +kernel
theorem card_two {a b : Nat} (ha : a < 64) (hb : b < 64) (h : a ≠ b) : card (2 ^ a ||| 2 ^ b) = 2 := by
  have := card_two0 ⟨a, ha⟩ ⟨b, hb⟩
  simpa [h] using this
theorem clear_bit {s x : Nat} (h : s.testBit x = true) (i : Nat) : (s - 2 ^ x).testBit i = (s.testBit i && !decide (x = i)) := by
  have e : s = 2 ^ x + (s - 2 ^ x) := by
    have := Nat.ge_two_pow_of_testBit h
    omega
  have hb : (s - 2 ^ x).testBit x = false := by
    have h2 := Nat.testBit_two_pow_add_eq (s - 2 ^ x) x
    rw [← e, h] at h2
    simpa using h2.symm
  have ho : (s - 2 ^ x) ||| 2 ^ x = s := or_add_back hb e
  by_cases hi : x = i
  · subst hi; simp [hb]
  · have h3 : s.testBit i = ((s - 2 ^ x) ||| 2 ^ x).testBit i := by rw [ho]
    rw [Nat.testBit_or, Nat.testBit_two_pow] at h3
    simp [hi] at h3
    simp [h3, hi]
/-- one cell on: o is what is laid at the cell -/
theorem rest_step {R k s s' : Nat} {o : Nat → Bool} (h1 : (R.testBit k && !s.testBit (k % 8) && !o k) = false) (h2 : ∀ j, k < j → j < k + 8 → s'.testBit (j % 8) = (s.testBit (j % 8) || o j))
    (h3 : s'.testBit (k % 8) = o (k + 8)) (h4 : ∀ j, k + 8 < j → o j = false) (j : Nat) : restP R (k + 1) s' j = (restP R k s j && !o j) := by
  unfold restP
  by_cases e1 : j = k
  · subst e1
    rw [decide_eq_false (show ¬ j + 1 ≤ j by omega), decide_eq_true (show j ≤ j by omega), decide_eq_true (show j < j + 8 by omega)]
    simpa using h1.symm
  by_cases e2 : j = k + 8
  · subst e2
    rw [decide_eq_true (show k + 1 ≤ k + 8 by omega), decide_eq_true (show k ≤ k + 8 by omega), decide_eq_true (show k + 8 < k + 1 + 8 by omega), decide_eq_false (show ¬ k + 8 < k + 8 by omega), show (k + 8) % 8 = k % 8 by omega, h3]
    simp
  by_cases e3 : k < j ∧ j < k + 8
  · rw [decide_eq_true (show k + 1 ≤ j by omega), decide_eq_true (show k ≤ j by omega), decide_eq_true (show j < k + 1 + 8 by omega), decide_eq_true (show j < k + 8 by omega), h2 j e3.1 e3.2]
    cases R.testBit j <;> cases s.testBit (j % 8) <;> cases o j <;> rfl
  by_cases e4 : j < k
  · rw [decide_eq_false (show ¬ k + 1 ≤ j by omega), decide_eq_false (show ¬ k ≤ j by omega)]; simp
  · rw [decide_eq_true (show k + 1 ≤ j by omega), decide_eq_true (show k ≤ j by omega), decide_eq_false (show ¬ j < k + 1 + 8 by omega), decide_eq_false (show ¬ j < k + 8 by omega), h4 j (by omega)]
    simp
theorem valid_step {R k s s' : Nat} {o : Nat → Bool} (hv : Valid R k s) (hs : s' < 256) (h2 : ∀ j, k < j → j < k + 8 → s'.testBit (j % 8) = (s.testBit (j % 8) || o j))
    (h3 : s'.testBit (k % 8) = o (k + 8)) (h5 : ∀ j, o j = true → R.testBit j = true) : Valid R (k + 1) s' := by
  refine ⟨hs, fun j g1 g2 g3 => ?_⟩
  by_cases e : j = k + 8
  · subst e
    rw [show (k + 8) % 8 = k % 8 by omega, h3] at g3
    exact h5 _ g3
  · rw [h2 j (by omega) (by omega), Bool.or_eq_true] at g3
    rcases g3 with g3 | g3
    · exact hv.2 j (by omega) (by omega) g3
    · exact h5 _ g3
theorem wayN_covs {R : Nat} (hR : R < 18446744073709551616) : ∀ (f s g : Nat), f ≤ 64 → f ≤ g → Valid R (64 - f) s → wayN R f s = covs (tilesL 2) g (restN R (64 - f) s) := by
  intro f
  induction f with
  | zero =>
    intro s g _ _ hv
    have h0 : restN R (64 - 0) s = 0 := by
      apply Nat.eq_of_testBit_eq
      intro i
      rw [restN_bit hR, Nat.zero_testBit, restP]
      cases h : R.testBit i
      · rfl
      · have := bit_lt hR h
        rw [decide_eq_false (by omega)]; rfl
    have hs : s = 0 := by
      apply Nat.eq_of_testBit_eq
      intro i
      rw [Nat.zero_testBit]
      cases h : s.testBit i with
      | false => rfl
      | true =>
        exfalso
        have hi : i < 8 := by
          cases Nat.lt_or_ge i 8 with
          | inl h => exact h
          | inr hj =>
            rw [Nat.testBit_lt_two_pow (Nat.lt_of_lt_of_le (show s < 2 ^ 8 from hv.1) (Nat.pow_le_pow_right (by decide) hj))] at h
            cases h
        have := bit_lt hR (hv.2 (64 + i) (by omega) (by omega) (by rw [show (64 + i) % 8 = i by omega]; exact h))
        omega
    rw [h0, covs_zero, hs]; simp [wayN]
  | succ f ih =>
    intro s g hf hg hv
    obtain ⟨k, hk⟩ : ∃ k, k = 64 - (f + 1) := ⟨_, rfl⟩
    have hk1 : 64 - f = k + 1 := by omega
    have hk63 : 63 - f = k := by omega
    rw [← hk] at hv ⊢
    rw [wayN, hk63]
    rw [hk1] at ih
    have hk64 : k < 64 := by omega
    have h8 : k % 8 < 8 := Nat.mod_lt _ (by decide)
    have hor : ∀ x < 8, s ||| 2 ^ x < 256 := fun x hx => Nat.or_lt_two_pow (n := 8) hv.1 (Nat.pow_lt_pow_right (by decide) hx)
    have same : ∀ {s' : Nat}, s' < 256 → (R.testBit k && !s.testBit (k % 8)) = false → (∀ j, k < j → j < k + 8 → s'.testBit (j % 8) = s.testBit (j % 8)) → s'.testBit (k % 8) = false → wayN R f s' = covs (tilesL 2) g (restN R k s) := by
      intro s' hs' g1 g2 g3
      rw [ih s' g (by omega) (by omega) (valid_step (o := fun _ => false) hv hs' (fun j a b => by rw [g2 j a b, Bool.or_false]) g3 (fun _ h => by cases h))]
      congr 1
      apply Nat.eq_of_testBit_eq
      intro j
      rw [restN_bit hR, restN_bit hR, rest_step (s := s) (o := fun _ => false) (by rw [g1]; rfl) (fun j a b => by rw [g2 j a b, Bool.or_false]) g3 (fun _ _ => rfl)]
      simp
    unfold trans
    by_cases hb : R.testBit k = true
    · rw [if_pos hb]
      by_cases hc : s.testBit (k % 8) = true
      · rw [if_pos hc]
        have hcl := clear_bit hc
        simp only [List.map_cons, List.map_nil, List.sum_cons, List.sum_nil, Int.add_zero]
        refine same (Nat.lt_of_le_of_lt (Nat.sub_le _ _) hv.1) (by rw [hc]; simp) (fun j a b => ?_) (by rw [hcl]; simp)
        rw [hcl, decide_eq_false (by omega)]; simp
      · rw [if_neg hc]
        have hc' : s.testBit (k % 8) = false := by simpa using hc
        have hk0 : restP R k s k = true := by unfold restP; simp [hb, hc']
        have hlow : lowb (restN R k s) = k := lowb_eq hk64 (by rw [restN_bit hR, hk0]) (fun j hj => by
          rw [restN_bit hR, restP, decide_eq_false (show ¬ k ≤ j by omega)]; simp)
        have hne : restN R k s ≠ 0 := by
          intro e
          have := restN_bit hR k s k
          rw [e, hk0] at this
          simp at this
        obtain ⟨g', rfl⟩ : ∃ g', g = g' + 1 := ⟨g - 1, by omega⟩
        rw [covs_succ _ _ hne, hlow, show tilesL 2 k = (if k % 8 < 7 then [2 ^ k ||| 2 ^ (k + 1)] else []) ++ (if k < 56 then [2 ^ k ||| 2 ^ (k + 8)] else []) from tilesL_two ⟨k, hk64⟩, covSum_app, List.map_append, sum_app, Int.add_comm]
        have lay : ∀ (b x : Nat), b < 64 → R.testBit b = true → x < 8 → (∀ j, k < j → j < k + 8 → (s ||| 2 ^ x).testBit (j % 8) = (s.testBit (j % 8) || (2 ^ k ||| 2 ^ b).testBit j)) → (s ||| 2 ^ x).testBit (k % 8) = (2 ^ k ||| 2 ^ b).testBit (k + 8) → b ≤ k + 8 →
            wayN R f (s ||| 2 ^ x) = covs (tilesL 2) g' (bdiff (restN R k s) (2 ^ k ||| 2 ^ b)) := by
          intro b x hb64 hbR hx g2 g3 hbk
          rw [ih _ g' (by omega) (by omega) (valid_step (o := (2 ^ k ||| 2 ^ b).testBit) hv (hor x hx) g2 g3 (fun j h => by
            rw [two_or_bit, Bool.or_eq_true, decide_eq_true_eq, decide_eq_true_eq] at h
            rcases h with rfl | rfl
            · exact hb
            · exact hbR))]
          congr 1
          apply Nat.eq_of_testBit_eq
          intro j
          rw [bdiff_bit (restN_lt R k s) (two_or_lt hk64 hb64), restN_bit hR, restN_bit hR]
          refine rest_step (s := s) ?_ g2 g3 (fun j h => ?_) j
          · rw [two_or_bit]; simp
          · rw [two_or_bit, decide_eq_false (by omega), decide_eq_false (by omega)]; rfl
        congr 1
        · by_cases h7 : k % 8 < 7
          · rw [if_pos h7, covSum_one, two_sub, restN_bit hR, restN_bit hR, hk0, Bool.true_and]
            have hk1' : restP R k s (k + 1) = (R.testBit (k + 1) && !s.testBit (k % 8 + 1)) := by
              unfold restP
              rw [decide_eq_true (show k ≤ k + 1 by omega), decide_eq_true (show k + 1 < k + 8 by omega), show (k + 1) % 8 = k % 8 + 1 by omega]
              simp
            rw [hk1', decide_eq_true h7, Bool.true_and]
            by_cases hx : (R.testBit (k + 1) && !s.testBit (k % 8 + 1)) = true
            · rw [if_pos hx, if_pos hx]
              simp only [List.map_cons, List.map_nil, List.sum_cons, List.sum_nil, Int.add_zero]
              rw [Bool.and_eq_true] at hx
              refine lay (k + 1) (k % 8 + 1) (by omega) hx.1 (by omega) (fun j a b => ?_) ?_ (by omega)
              · rw [Nat.testBit_or, Nat.testBit_two_pow, two_or_bit, decide_eq_false (show ¬ k = j by omega), Bool.false_or]
                congr 1
                exact decide_eq_decide.2 (by omega)
              · rw [Nat.testBit_or, Nat.testBit_two_pow, two_or_bit, hc', decide_eq_false (by omega), decide_eq_false (by omega), decide_eq_false (by omega)]
            · rw [if_neg hx, if_neg hx]; rfl
          · rw [if_neg h7, decide_eq_false h7]
            simp [covSum_nil]
        · by_cases h56 : k < 56
          · rw [if_pos h56, covSum_one, two_sub, restN_bit hR, restN_bit hR, hk0, Bool.true_and]
            have hk8' : restP R k s (k + 8) = R.testBit (k + 8) := by
              unfold restP
              rw [decide_eq_true (show k ≤ k + 8 by omega), decide_eq_false (show ¬ k + 8 < k + 8 by omega)]
              simp
            rw [hk8']
            by_cases hx : R.testBit (k + 8) = true
            · rw [if_pos hx, if_pos hx]
              simp only [List.map_cons, List.map_nil, List.sum_cons, List.sum_nil, Int.add_zero]
              refine lay (k + 8) (k % 8) (by omega) hx h8 (fun j a b => ?_) ?_ (by omega)
              · rw [Nat.testBit_or, Nat.testBit_two_pow, two_or_bit, decide_eq_false (show ¬ k = j by omega), decide_eq_false (show ¬ k + 8 = j by omega), decide_eq_false (by omega)]; rfl
              · rw [Nat.testBit_or, Nat.testBit_two_pow, two_or_bit]; simp
            · rw [if_neg hx, if_neg hx]; rfl
          · have hx : R.testBit (k + 8) = false := by
              cases h : R.testBit (k + 8) with
              | false => rfl
              | true => have := bit_lt hR h; omega
            rw [if_neg h56, hx]
            rfl
    · rw [if_neg hb]
      have hb' : R.testBit k = false := by simpa using hb
      have hc' : s.testBit (k % 8) = false := by
        cases h : s.testBit (k % 8) with
        | false => rfl
        | true => rw [hv.2 k (by omega) (by omega) h] at hb'; cases hb'
      rw [if_neg (by rw [hc']; simp)]
      simp only [List.map_cons, List.map_nil, List.sum_cons, List.sum_nil, Int.add_zero]
      exact same hv.1 (by rw [hb']; rfl) (fun _ _ _ => rfl) hc'
theorem countD_covs {R : Nat} (hR : R < 18446744073709551616) : countD R = wrap64 (covs (tilesL 2) 64 R) := by
  have h := wayN_covs hR 64 0 64 (by omega) (by omega) ⟨by decide, fun j _ _ h => by simp at h⟩
  have e : restN R (64 - 64) 0 = R := by
    apply Nat.eq_of_testBit_eq
    intro i
    rw [restN_bit hR, restP]; simp
  rw [countD_wrap, h, e]
/-- the number of coverings is small: each tile has two cells -/
theorem covs_le : ∀ (f s : Nat), s < 18446744073709551616 → 0 ≤ covs (tilesL 2) f s ∧ covs (tilesL 2) f s ≤ ((2 ^ (card s / 2) : Nat) : Int) := by
  intro f
  induction f with
  | zero =>
    intro s _
    have : (0 : Int) < ((2 ^ (card s / 2) : Nat) : Int) := by exact_mod_cast Nat.pow_pos (by decide)
    unfold covs
    split <;> constructor <;> omega
  | succ f ih =>
    intro s hs
    have hp : (0 : Int) < ((2 ^ (card s / 2) : Nat) : Int) := by exact_mod_cast Nat.pow_pos (by decide)
    by_cases h0 : s = 0
    · subst h0; rw [covs_zero]; constructor <;> omega
    · rw [covs_succ _ _ h0]
      have hl := (lowb_spec hs h0).1
      rw [show tilesL 2 (lowb s) = (if lowb s % 8 < 7 then [2 ^ lowb s ||| 2 ^ (lowb s + 1)] else []) ++ (if lowb s < 56 then [2 ^ lowb s ||| 2 ^ (lowb s + 8)] else []) from tilesL_two ⟨lowb s, hl⟩, covSum_app]
      have one : ∀ a b : Nat, a < 64 → b < 64 → a ≠ b → 0 ≤ covSum (fun own => covs (tilesL 2) f (bdiff s own)) s [2 ^ a ||| 2 ^ b] ∧ 2 * covSum (fun own => covs (tilesL 2) f (bdiff s own)) s [2 ^ a ||| 2 ^ b] ≤ ((2 ^ (card s / 2) : Nat) : Int) := by
        intro a b ha hb hab
        rw [covSum_one]
        split
        · rename_i e
          have e' : s &&& (2 ^ a ||| 2 ^ b) = (2 ^ a ||| 2 ^ b) := by simpa using e
          have h1 := ih (bdiff s (2 ^ a ||| 2 ^ b)) (bdiff_lt hs)
          have h2 := card_diff hs (two_or_lt ha hb) e'
          have h3 : card (2 ^ a ||| 2 ^ b) = 2 := card_two ha hb hab
          have h4 : card s / 2 = card (bdiff s (2 ^ a ||| 2 ^ b)) / 2 + 1 := by omega
          rw [h4, Nat.pow_succ]
          push_cast at h1 ⊢
          omega
        · constructor <;> omega
      have z : ∀ g : Nat → Int, covSum g s [] = 0 := fun g => rfl
      have r1 : 0 ≤ covSum (fun own => covs (tilesL 2) f (bdiff s own)) s (if lowb s % 8 < 7 then [2 ^ lowb s ||| 2 ^ (lowb s + 1)] else []) ∧ 2 * covSum (fun own => covs (tilesL 2) f (bdiff s own)) s (if lowb s % 8 < 7 then [2 ^ lowb s ||| 2 ^ (lowb s + 1)] else []) ≤ ((2 ^ (card s / 2) : Nat) : Int) := by
        split
        · exact one _ _ hl (by omega) (by omega)
        · rw [z]; constructor <;> omega
      have r2 : 0 ≤ covSum (fun own => covs (tilesL 2) f (bdiff s own)) s (if lowb s < 56 then [2 ^ lowb s ||| 2 ^ (lowb s + 8)] else []) ∧ 2 * covSum (fun own => covs (tilesL 2) f (bdiff s own)) s (if lowb s < 56 then [2 ^ lowb s ||| 2 ^ (lowb s + 8)] else []) ≤ ((2 ^ (card s / 2) : Nat) : Int) := by
        split
        · exact one _ _ hl (by omega) (by omega)
        · rw [z]; constructor <;> omega
      omega
theorem countD_eq {R : Nat} (hR : R < 18446744073709551616) : countD R = covs (tilesL 2) 64 R := by
  rw [countD_covs hR]
  have h1 := covs_le 64 R hR
  have h2 : 2 ^ (card R / 2) ≤ 2 ^ 32 := Nat.pow_le_pow_right (by decide) (by have := card_le R; omega)
  have h3 : ((2 ^ (card R / 2) : Nat) : Int) ≤ ((4294967296 : Nat) : Int) := Int.ofNat_le.2 h2
  unfold wrap64
  omega
end Go.Proofs.Ytdcjhfmkkcakhaa

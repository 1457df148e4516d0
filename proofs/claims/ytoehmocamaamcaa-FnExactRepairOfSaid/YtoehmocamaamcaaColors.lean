/-
  Contracts of the functions on colors of floors (areFewDominoes, areApart, l31Ok, l31Apart, mayHave, AreProper, GreedyColors): what each returns, as a function of its arguments; nothing that was there is written; lists of at most 1048576.
-/
import Derived.Test.YtoehmocamaamcaaDoms
import Derived.Test.YtoehmocamaamcaaTouch
import Derived.Test.YtoehmocamaamcaaIn
namespace Go.Proofs.Ytoehmocamaamcaa
open Go.ChangeShapes Go.WideShapes Go.ChangeAt Go.RowKit Go.Deep
set_option linter.unusedVariables false

theorem ovl_comm (x y : Int) (z : Bool) (a b : Int) (c : Bool) : ovl x y z a b c = ovl a b c x y z := by
  rw [Bool.eq_iff_iff]
  simp only [ovl, Bool.and_eq_true, Bool.or_eq_true, decide_eq_true_eq]
  constructor
  · rintro ⟨⟨h1, h2⟩, h3⟩; exact ⟨⟨h2, h1⟩, by omega⟩
  · rintro ⟨⟨h1, h2⟩, h3⟩; exact ⟨⟨h2, h1⟩, by omega⟩
theorem nbr_comm (a b c d : Int) : nbr a b c d = nbr c d a b := by
  have h1 : (a - c) * (a - c) = (c - a) * (c - a) := by rw [← Int.neg_sub c a, Int.neg_mul_neg]
  have h2 : (b - d) * (b - d) = (d - b) * (d - b) := by rw [← Int.neg_sub d b, Int.neg_mul_neg]
  unfold nbr
  rw [h1, h2, Bool.and_comm (cellOk a b)]
theorem touch_comm (x y : Int) (z : Bool) (a b : Int) (c : Bool) : touch x y z a b c = touch a b c x y z := by
  unfold touch
  rw [ovl_comm x y z, nbr_comm x y a b, nbr_comm x y (sndX a c), nbr_comm (sndX x z) (sndY y z) a b, nbr_comm (sndX x z) (sndY y z) (sndX a c)]
  cases domOk x y z <;> cases domOk a b c <;> cases ovl a b c x y z <;> cases nbr a b x y <;> cases nbr (sndX a c) (sndY b c) x y <;> cases nbr a b (sndX x z) (sndY y z) <;> cases nbr (sndX a c) (sndY b c) (sndX x z) (sndY y z) <;> rfl
def dAt (l : List Dm) (i : Nat) : Dm := (l[i]?).getD (0, 0, false)
theorem dAt_eq {l : List Dm} {i : Nat} {d : Dm} (h : l[i]? = some d) : dAt l i = d := by simp [dAt, h]
def ovlAt (l : List Dm) (i k : Nat) : Bool := ovl (dAt l i).1 (dAt l i).2.1 (dAt l i).2.2 (dAt l k).1 (dAt l k).2.1 (dAt l k).2.2
def touchAt (l : List Dm) (i k : Nat) : Bool := touch (dAt l i).1 (dAt l i).2.1 (dAt l i).2.2 (dAt l k).1 (dAt l k).2.1 (dAt l k).2.2
theorem ovlAt_comm (l : List Dm) (i k : Nat) : ovlAt l i k = ovlAt l k i := ovl_comm ..
theorem touchAt_comm (l : List Dm) (i k : Nat) : touchAt l i k = touchAt l k i := touch_comm ..
def allOk (l : List Dm) : Bool := l.all fun d => domOk d.1 d.2.1 d.2.2
def few (l : List Dm) : Bool := allOk l && decide (l.length ≤ 18)
def apart (l : List Dm) : Bool := few l && (List.range l.length).all fun k => (List.range k).all fun i => !ovlAt l i k
theorem apart_iff {l : List Dm} : apart l = true ↔ few l = true ∧ ∀ k < l.length, ∀ i < k, ovlAt l i k = false := by simp [apart]
theorem apart_no {l : List Dm} {i k : Nat} (hk : k < l.length) (hi : i < k) (h : ovlAt l i k = true) : apart l = false := by
  cases h' : apart l
  · rfl
  · have := (apart_iff.1 h').2 k hk i hi
    rw [this] at h; cases h
theorem InD.cap {lo hi : Nat} {w : World} {A : Option Addr} {n c : Nat} {l : List Dm} (h : InD lo hi w (.slice A n c) l) : n ≤ c := by
  rcases h.1.2.1.2 with ⟨e, h0⟩ | ⟨g, cap, cur, hv, _, _, hn, _⟩
  · injection e with e1 e2 e3; omega
  · injection hv with e1 e2 e3; omega
def cAt (cs : List Int) (k : Nat) : Int := (cs[k]?).getD 0
theorem cAt_eq {l : List Int} {i : Nat} {d : Int} (h : l[i]? = some d) : cAt l i = d := by simp [cAt, h]
def mh (l : List Dm) (cs : List Int) (i : Nat) (c : Int) : Bool := (List.range i).all fun k => !(cAt cs k == c && touchAt l i k)
theorem mh_iff {l : List Dm} {cs : List Int} {i : Nat} {c : Int} : mh l cs i c = true ↔ ∀ k < i, (cAt cs k == c && touchAt l i k) = false := by simp only [mh, List.all_eq_true, List.mem_range, Bool.not_eq_true']
theorem mh_no {l : List Dm} {cs : List Int} {i k : Nat} {c : Int} (hk : k < i) (h1 : (cAt cs k == c) = true) (h2 : touchAt l i k = true) : mh l cs i c = false := by
  cases h' : mh l cs i c
  · rfl
  · have := mh_iff.1 h' k hk
    rw [h1, h2] at this; cases this
def properTo (l : List Dm) (cs : List Int) (n : Nat) : Bool := (List.range n).all fun i => mh l cs i (cAt cs i)
def proper (l : List Dm) (cs : List Int) : Bool := apart l && decide (cs.length = l.length) && (cs.all fun x => inB x 0 5) && properTo l cs l.length
theorem properTo_iff {l : List Dm} {cs : List Int} {n : Nat} : properTo l cs n = true ↔ ∀ i < n, mh l cs i (cAt cs i) = true := by simp [properTo]
theorem properTo_no {l : List Dm} {cs : List Int} {n k : Nat} (hk : k < n) (h : mh l cs k (cAt cs k) = false) : properTo l cs n = false := by
  cases h' : properTo l cs n
  · rfl
  · have := properTo_iff.1 h' k hk
    rw [this] at h; cases h
theorem mh_congr {l : List Dm} {cs cs' : List Int} {i : Nat} {c : Int} (h : ∀ k < i, cAt cs k = cAt cs' k) : mh l cs i c = mh l cs' i c := by
  rw [Bool.eq_iff_iff, mh_iff, mh_iff]
  constructor
  · intro h1 k hk; rw [← h k hk]; exact h1 k hk
  · intro h1 k hk; rw [h k hk]; exact h1 k hk
def findC (l : List Dm) (cs : List Int) (i : Nat) : Nat → Nat → Nat
  | 0, c => c
  | f + 1, c => if mh l cs i c then c else findC l cs i f (c + 1)
def greedyTo (l : List Dm) : Nat → List Int
  | 0 => []
  | k + 1 => greedyTo l k ++ [(findC l (greedyTo l k) k (k + 1) 0 : Int)]
def greedy (l : List Dm) : List Int := if few l then greedyTo l l.length else []
theorem greedyTo_len (l : List Dm) (k : Nat) : (greedyTo l k).length = k := by
  induction k with
  | zero => rfl
  | succ k ih => simp [greedyTo, ih]
theorem findC_le (l : List Dm) (cs : List Int) (i c' : Nat) (h : mh l cs i c' = true) : ∀ (f c : Nat), c ≤ c' → c' < c + f → findC l cs i f c ≤ c' := by
  intro f
  induction f with
  | zero => intro c h1 h2; omega
  | succ f ih =>
    intro c h1 h2
    rw [findC]
    split
    · omega
    · rename_i hm
      by_cases he : c = c'
      · subst he; exact absurd h hm
      · exact ih (c + 1) (by omega) (by omega)
theorem greedyTo_rng (l : List Dm) (k : Nat) : ∀ j < k, 0 ≤ cAt (greedyTo l k) j ∧ cAt (greedyTo l k) j ≤ j := by
  induction k with
  | zero => intro j hj; omega
  | succ k ih =>
    intro j hj
    by_cases h : j = k
    · subst h
      have e : cAt (greedyTo l (j + 1)) j = (findC l (greedyTo l j) j (j + 1) 0 : Int) := by
        simp [cAt, greedyTo, greedyTo_len]
      have hm : mh l (greedyTo l j) j j = true := mh_iff.2 fun q hq => by
        have := ih q hq
        have : (cAt (greedyTo l j) q == (j : Int)) = false := by simp; omega
        rw [this]; rfl
      have := findC_le l (greedyTo l j) j j hm (j + 1) 0 (by omega) (by omega)
      rw [e]; omega
    · have e : cAt (greedyTo l (k + 1)) j = cAt (greedyTo l k) j := by
        unfold cAt
        rw [greedyTo, List.getElem?_append_left (by rw [greedyTo_len]; omega)]
      rw [e]; exact ih j (by omega)
theorem greedyTo_mem (l : List Dm) (k : Nat) : ∀ x ∈ greedyTo l k, 0 ≤ x ∧ x ≤ k := by
  intro x hx
  obtain ⟨j, hj, rfl⟩ := List.mem_iff_getElem.1 hx
  rw [greedyTo_len] at hj
  have := greedyTo_rng l k j hj
  rw [cAt_eq (List.getElem?_eq_getElem (by rw [greedyTo_len]; exact hj))] at this
  omega
theorem greedy_lt {l : List Dm} {i c : Nat} (h : mh l (greedyTo l i) i c = false) : c < i := by
  rcases Nat.lt_or_ge c i with h1 | h1
  · exact h1
  · have : mh l (greedyTo l i) i c = true := mh_iff.2 fun q hq => by
      have := greedyTo_rng l i q hq
      have : (cAt (greedyTo l i) q == (c : Int)) = false := by simp; omega
      rw [this]; rfl
    rw [this] at h; cases h
theorem findC_go {l : List Dm} {cs : List Int} {i c : Nat} (hc : c < i) (h : mh l cs i c = false) : findC l cs i (i + 1 - c) c = findC l cs i (i + 1 - (c + 1)) (c + 1) := by
  rw [show i + 1 - c = (i - c) + 1 by omega, findC, h, if_neg (by decide), show i + 1 - (c + 1) = i - c by omega]
theorem findC_end {l : List Dm} {cs : List Int} {i c : Nat} (hc : c ≤ i) (h : mh l cs i c = true) : findC l cs i (i + 1 - c) c = c := by
  rw [show i + 1 - c = (i - c) + 1 by omega, findC, h, if_pos rfl]
theorem greedy_len (l : List Dm) : (greedy l).length ≤ 18 := by
  unfold greedy
  split
  · rename_i h
    rw [greedyTo_len]
    simp only [few, Bool.and_eq_true, decide_eq_true_eq] at h
    exact h.2
  · simp
def gOut (l : List Dm) (i c : Nat) : List Int := greedyTo l i ++ (c : Int) :: List.replicate (l.length - i - 1) 0
theorem gOut_len {l : List Dm} {i c : Nat} (hi : i < l.length) : (gOut l i c).length = l.length := by simp [gOut, greedyTo_len]; omega
theorem gOut_mh {l : List Dm} {i c : Nat} (x : Int) : mh l (gOut l i c) i x = mh l (greedyTo l i) i x := mh_congr fun k hk => by
  unfold cAt gOut
  rw [List.getElem?_append_left (by rw [greedyTo_len]; omega)]
theorem gOut_at {l : List Dm} {i c : Nat} : (gOut l i c)[i]? = some (c : Int) := by
  unfold gOut
  rw [List.getElem?_append_right (by rw [greedyTo_len]; omega), greedyTo_len, Nat.sub_self]; rfl
theorem gOut_set {l : List Dm} {i c : Nat} : (gOut l i c).set i ((c : Int) + 1) = gOut l i (c + 1) := by
  unfold gOut
  rw [List.set_append_right _ _ (by rw [greedyTo_len]; omega), greedyTo_len, Nat.sub_self, List.set_cons_zero]; rfl
theorem gOut_mem {l : List Dm} {i c : Nat} (hi : i ≤ 18) (hc : c ≤ 18) : ∀ x ∈ gOut l i c, I64 x := by
  intro x hx
  rcases List.mem_append.1 hx with h | h
  · have := greedyTo_mem l i x h; exact ⟨by omega, by omega⟩
  · rcases List.mem_cons.1 h with rfl | h
    · exact ⟨by omega, by omega⟩
    · have := List.eq_of_mem_replicate h; subst this; exact ⟨by omega, by omega⟩
end Go.Proofs.Ytoehmocamaamcaa

/-
  Contracts of functions over one row of integers (isStrict, l26Ascending, isAbove, copyOf): what each returns, as a function of the lists; nothing that was there is written; lists of at most 1048576 numbers.
-/
import Derived.Test.YtdcjhfmkkcakhaaIn
namespace Go.Proofs.Ytdcjhfmkkcakhaa
open Go.ChangeShapes Go.WideShapes Go.ChangeAt Go.RowKit Go.Deep
set_option linter.unusedVariables false

theorem RdI.at2 {w : World} {A : Option Addr} {l : List Int} (h : RdI w A l) {j k : Nat} (hj : j < l.length) (hk : k < l.length) :
    ∃ b off x y, A = some ⟨b, off, none⟩ ∧ b < w.heap.size ∧ l[j]? = some x ∧ l[k]? = some y ∧ I64 x ∧ I64 y ∧ w.cell? ⟨b, off + j, none⟩ = some (.int .i64 x) ∧ w.cell? ⟨b, off + k, none⟩ = some (.int .i64 y) := by
  obtain ⟨b, off, x, hA, hb, hx, _, gx, cx⟩ := h.at_ hj
  obtain ⟨b', off', y, hA', _, hy, _, gy, cy⟩ := h.at_ hk
  rw [hA] at hA'
  injection hA' with hA'
  injection hA' with e1 e2
  subst e1; subst e2
  exact ⟨b, off, x, y, hA, hb, hx, hy, gx, gy, cx, cy⟩
/-- all numbers from k up to n have a property -/
def allFrom (f : Nat → Bool) (k n : Nat) : Bool := (List.range' k (n - k)).all f
theorem allFrom_step {f : Nat → Bool} {k n : Nat} (h : k < n) : allFrom f k n = (f k && allFrom f (k + 1) n) := by
  unfold allFrom
  rw [show n - k = (n - (k + 1)) + 1 by omega, List.range'_succ, List.all_cons]
theorem allFrom_end (f : Nat → Bool) (n : Nat) : allFrom f n n = true := by simp [allFrom]
theorem allFrom_iff {f : Nat → Bool} {n : Nat} : allFrom f 0 n = true ↔ ∀ i < n, f i = true := by
  simp [allFrom, List.mem_range']
def iAt (l : List Int) (i : Nat) : Int := (l[i]?).getD 0
theorem iAt_eq {l : List Int} {i : Nat} {x : Int} (h : l[i]? = some x) : iAt l i = x := by simp [iAt, h]
theorem iAt_in {l : List Int} {P : Int → Prop} (h : ∀ x ∈ l, P x) {i : Nat} (hi : i < l.length) : P (iAt l i) := by
  rw [iAt_eq (List.getElem?_eq_getElem hi)]; exact h _ (List.getElem_mem hi)
def ascAt (l : List Int) (i : Nat) : Bool := decide (i = 0) || decide (iAt l (i - 1) < iAt l i)
def ascB (l : List Int) : Bool := allFrom (ascAt l) 0 l.length
def strictB (l : List Int) (a b : Int) : Bool := ascB l && l.all fun x => inB x a b
theorem strictB_at (l : List Int) (a b : Int) : strictB l a b = allFrom (fun i => inB (iAt l i) a b && ascAt l i) 0 l.length := by
  rw [Bool.eq_iff_iff, strictB, Bool.and_eq_true, ascB, allFrom_iff, allFrom_iff]
  constructor
  · rintro ⟨h1, h2⟩ i hi
    rw [Bool.and_eq_true]
    refine ⟨?_, h1 i hi⟩
    rw [iAt_eq (List.getElem?_eq_getElem hi)]
    exact List.all_eq_true.1 h2 _ (List.getElem_mem hi)
  · intro h
    refine ⟨fun i hi => (Bool.and_eq_true _ _ ▸ h i hi).2, List.all_eq_true.2 fun x hx => ?_⟩
    obtain ⟨i, hi, rfl⟩ := List.getElem_of_mem hx
    have := (Bool.and_eq_true _ _ ▸ h i hi).1
    rwa [iAt_eq (List.getElem?_eq_getElem hi)] at this
theorem strictB_iff {l : List Int} {a b : Int} : strictB l a b = true ↔ (∀ i < l.length, ascAt l i = true) ∧ ∀ x ∈ l, a ≤ x ∧ x ≤ b := by
  rw [strictB, Bool.and_eq_true, ascB, allFrom_iff, List.all_eq_true]
  simp only [inB_true]
theorem allWithin_n (A : Option Addr) (N c : Nat) (l : List Int) (a b : Int) (w : World) (hN : N = l.length) (hl : N ≤ 1048576) (hr : RdI w A l) :
    Calls Try.prog 90 #[.slice A N c, .int .i64 a, .int .i64 b] w fun e w' => e = .returned (.bool (l.all fun x => inB x a b)) ∧ w = w' := by subst hN; exact allWithin_any A c l a b w hl hr
set_option maxHeartbeats 1000000 in
theorem isStrict_any (A : Option Addr) (c : Nat) (l : List Int) (a b : Int) (w : World) (hl : l.length ≤ 1048576) (hr : RdI w A l) :
    Calls Try.prog 147 #[.slice A l.length c, .int .i64 a, .int .i64 b] w fun e w' => e = .returned (.bool (strictB l a b)) ∧ Below w.heap.size w w' := by
  have hr' := Lib.hid hr
  clear hr
  go_enter Try.func147, Try.ntmps147
  go_wp2
  go_loopw [10] (fun i wr => ∃ k : Nat, k ≤ l.length ∧ i = .int .i64 k ∧ ascB l = allFrom (ascAt l) k l.length ∧ Below w.heap.size w wr) (fun i _ => l.length - (intOf i).toNat)
  case atStart => exact ⟨0, by omega, rfl, rfl, Below.refl _ _⟩
  case round =>
    obtain ⟨k, hk, rfl, hall, hB⟩ := hrel
    by_cases hlt : k < l.length
    · rw [allFrom_step hlt] at hall
      by_cases h0 : k = 0
      · subst h0
        have H := Lib.hid hall
        have hd : decide ((0 : Int) < 0) = false := by decide
        clear hall
        go_wp2
        (refine wp_region_quiet_bel (by kernel_rfl) (by kernel_rfl) ?_; (repeat (first | go_big_quiet_step (fail) | quiet_step (fail))); refine wpQuiet_nil ?_; intro wq hw0; obtain ⟨⟨_, hbq⟩, hw1⟩ := hw0; subst hw1; try dsimp only)
        go_wp2
        go_roundw
        case rel => exact ⟨1, by omega, by go_num, by rw [H.out]; simp [ascAt], bl_trans hB hbq⟩
        case measure => simp [intOf]; omega
      · obtain ⟨j, rfl⟩ : ∃ j, k = j + 1 := ⟨k - 1, by omega⟩
        obtain ⟨b', off, x, y, rfl, hbl, hx, hy, _, _, c0, c1⟩ := (hr'.out.below hB).at2 (j := j) (k := j + 1) (by omega) hlt
        have ha : ascAt l (j + 1) = decide (x < y) := by simp [ascAt, iAt_eq hx, iAt_eq hy]
        rw [ha] at hall
        have H := Lib.hid hall
        have q0 := bq_cell c0
        have q1 := bq_cell c1
        have hd : decide ((0 : Int) < ((j + 1 : Nat) : Int)) = true := by simp <;> omega
        clear hall ha hx hy c0 c1 h0
        by_cases hxy : x < y
        · have hxy' : ¬ y ≤ x := by omega
          go_wp2
          (refine wp_region_quiet_bel (by kernel_rfl) (by kernel_rfl) ?_; (repeat (first | go_big_quiet_step (fail) | quiet_step (fail))); refine wpQuiet_nil ?_; intro wq hw0; obtain ⟨⟨_, hbq⟩, hw1⟩ := hw0; subst hw1; try dsimp only)
          go_wp2
          go_roundw
          case rel => exact ⟨j + 1 + 1, by omega, by go_num, by rw [H.out]; simp [hxy], bl_trans hB hbq⟩
          case measure => simp [intOf]; omega
        · have hxy' : y ≤ x := by omega
          go_wp2
          (refine wp_region_quiet_bel (by kernel_rfl) (by kernel_rfl) ?_; (repeat (first | go_big_quiet_step (fail) | quiet_step (fail))); refine wpQuiet_nil ?_; intro wq hw0; obtain ⟨⟨_, hbq⟩, hw1⟩ := hw0; subst hw1; try dsimp only)
          go_wp2
          go_ret
          exact ⟨ret_bool (by rw [strictB, H.out]; simp [show ¬ x < y by omega]), bl_trans hB hbq⟩
    · obtain rfl : k = l.length := by omega
      rw [allFrom_end] at hall
      have H := Lib.hid hall
      clear hall
      go_wp2_with (go_at_call 90; refine (allWithin_any A c l a b _ hl (hr'.out.below hB)).mono ?_; rintro e wn ⟨rfl, rfl⟩)
      go_ret
      exact ⟨ret_bool (by rw [strictB, H.out]; simp), hB⟩
theorem isStrict_n (A : Option Addr) (N c : Nat) (l : List Int) (a b : Int) (w : World) (hN : N = l.length) (hl : N ≤ 1048576) (hr : RdI w A l) :
    Calls Try.prog 147 #[.slice A N c, .int .i64 a, .int .i64 b] w fun e w' => e = .returned (.bool (strictB l a b)) ∧ Below w.heap.size w w' := by subst hN; exact isStrict_any A c l a b w hl hr
end Go.Proofs.Ytdcjhfmkkcakhaa

/-
  WeightedCount of the program; and the plain law of FnAlternating: the 52 matrices that may be drawn, by one reckoning each.
-/
import Derived.Test.YtdcjhfmkkcakhaaAltI
import Derived.Test.YtdcjhfmkkcakhaaL25I
namespace Go.Proofs.Ytdcjhfmkkcakhaa
open Go.ChangeShapes Go.WideShapes Go.ChangeAt Go.RowKit Go.Deep
set_option linter.unusedVariables false

theorem wcOk : ∀ n : Fin 5, (decide (wcL (spL n) ≤ 1000) && (spL n).all fun m => decide (cmL m ≤ 10) && decide (m.length ≤ 5) && m.all fun r => decide (r.length ≤ 5)) = true := by decide +kernel
theorem wc_b {n : Nat} (h : n ≤ 4) : wcL (spL n) ≤ 1000 ∧ ∀ m ∈ spL n, cmL m ≤ 10 ∧ m.length ≤ 5 ∧ ∀ r ∈ m, r.length ≤ 5 := by
  have := wcOk ⟨n, by omega⟩
  simp only [Bool.and_eq_true, decide_eq_true_eq, List.all_eq_true] at this
  exact ⟨this.1, fun m hm => ⟨(this.2 m hm).1.1, (this.2 m hm).1.2, (this.2 m hm).2⟩⟩
/-- what the law asks of a matrix -/
def altLaw (m : List (List Int)) : Bool :=
  altB m && altB m.reverse && decide (cmL m = cmL m.reverse) && decide (invM m ≥ (cmL m : Int)) && decide (invM m ≤ ((m.length * (m.length - 1) / 2 : Nat) : Int)) && decide (invM m + invM m.reverse = ((m.length * (m.length - 1) / 2 : Nat) : Int) + (cmL m : Int)) &&
    decide (m.length ≤ 4) && decide (1 ≤ m.length) && (m.all fun r => decide (r.length = m.length) && r.all fun x => inB x (-1) 1) && decide (cmL m ≤ 10) && decide (cmL m.reverse ≤ 10)
theorem altLaw_ok : ∀ n : Fin 5, 1 ≤ n.val → (spL n).all altLaw = true := by decide +kernel
/-- what the law asks of a number of rows -/
theorem altNum_ok : ∀ n : Fin 5, 1 ≤ n.val → (decide ((spL n).length = acS n) && decide (wcL (spL n) = 2 ^ (n.val * (n.val - 1) / 2)) && decide (1 ≤ (spL n).length) && decide ((spL n).length ≤ 42)) = true := by decide +kernel
structure AltLaw (m : List (List Int)) : Prop where
  a1 : altB m = true
  a2 : altB m.reverse = true
  c : cmL m.reverse = cmL m
  ge : (cmL m : Int) ≤ invM m
  le : invM m ≤ ((m.length * (m.length - 1) / 2 : Nat) : Int)
  sum : invM m + invM m.reverse = ((m.length * (m.length - 1) / 2 : Nat) : Int) + (cmL m : Int)
  s1 : Sq m
  s2 : Sq m.reverse
  pos : 1 ≤ m.length
  c10 : cmL m ≤ 10
theorem alt_law {n : Nat} {m : List (List Int)} (h1 : 1 ≤ n) (h4 : n ≤ 4) (hm : m ∈ spL n) : AltLaw m := by
  have h := List.all_eq_true.1 (altLaw_ok ⟨n, by omega⟩ h1) m hm
  simp only [altLaw, Bool.and_eq_true, decide_eq_true_eq, List.all_eq_true, inB_true] at h
  obtain ⟨⟨⟨⟨⟨⟨⟨⟨⟨⟨a, b⟩, c⟩, d⟩, e⟩, f⟩, g⟩, i⟩, j⟩, k⟩, l⟩ := h
  refine ⟨a, b, c.symm, d, e, f, ⟨g, fun r hr => (j r hr).1, fun r hr x hx => (j r hr).2 x hx⟩, ⟨by rw [List.length_reverse]; exact g, fun r hr => ?_, fun r hr x hx => ?_⟩, i, k⟩
  · rw [List.length_reverse]; exact (j r (List.mem_reverse.1 hr)).1
  · exact (j r (List.mem_reverse.1 hr)).2 x hx
theorem alt_num {n : Nat} (h1 : 1 ≤ n) (h4 : n ≤ 4) : (spL n).length = acS n ∧ wcL (spL n) = 2 ^ (n * (n - 1) / 2) ∧ 1 ≤ (spL n).length ∧ (spL n).length ≤ 42 := by
  have h := altNum_ok ⟨n, by omega⟩ h1
  simp only [Bool.and_eq_true, decide_eq_true_eq] at h
  exact ⟨h.1.1.1, h.1.1.2, h.1.2, h.2⟩
theorem altL_nat {n : Nat} (h1 : 1 ≤ n) (h4 : n ≤ 4) : altL (n : Int) = spL n := by
  have : inB (n : Int) 1 4 = true := inB_true.2 ⟨by omega, by omega⟩
  simp [altL, this]
set_option maxHeartbeats 2000000 in
theorem WeightedCount_i (n : Nat) (h1 : 1 ≤ n) (h4 : n ≤ 4) (w : World) :
    Calls Try.prog 53 #[.int .i64 (n : Int)] w fun e w' => e = .returned (.int .i64 (wcL (spL n) : Nat)) ∧ Below w.heap.size w w' := by
  have hwc := wc_b h4
  have hlen := (alt_num h1 h4).2.2.2
  obtain ⟨ll, hll⟩ : ∃ ll, ll = spL n := ⟨_, rfl⟩
  have hal := altL_nat h1 h4
  rw [← hll] at hwc hlen hal ⊢
  have Hal := Lib.hid hal
  have Hwc := Lib.hid hwc.2
  have hw1 := hwc.1
  clear hll hal hwc
  go_enter Try.func53, Try.ntmps53
  go_wp2_with fail
  (refine (ListAlternating_i (n : Int) _).mono ?_; rintro e w1 ⟨v, rfl, o1, hb1⟩; rw [Hal.out] at o1; obtain ⟨⟨A, c, rfl⟩, _⟩ := id o1; have R1 := Lib.hid o1.rd; have HB1 := Lib.hid hb1; clear o1 hb1)
  obtain ⟨N, hN⟩ : ∃ N, N = ll.length := ⟨_, rfl⟩
  rw [← hN] at hlen ⊢
  have HN := Lib.hid hN
  clear hN
  go_wp2_with fail
  go_loopw [3, 9] (fun p q wr => ∃ (k s : Nat), k ≤ N ∧ q = .int .i64 (k : Int) ∧ p = .int .i64 (s : Int) ∧ Hid (s + wcL (ll.drop k) = wcL ll) ∧ Below w1.heap.size w1 wr) (fun _ q _ => N - (intOf q).toNat)
  case atStart => exact ⟨0, 0, by omega, rfl, rfl, Lib.hid (by simp), Below.refl _ _⟩
  case round =>
    obtain ⟨k, s, hk, rfl, rfl, hs, hB⟩ := hrel
    by_cases hlt : k < N
    · obtain ⟨b1, o1, m, A1, c1, rfl, hbl, hx, hd, hrw, hc⟩ := (R1.out.below hB).at_ (k := k) (by rw [← HN.out]; exact hlt)
      have hm := Hwc.out m (List.mem_of_getElem? hx)
      have hs2 := hs.out
      rw [hd, wcL] at hs2
      obtain ⟨M, hM⟩ : ∃ M, M = m.length := ⟨_, rfl⟩
      rw [← hM] at hc hm
      have HM := Lib.hid hM
      have hMl : M ≤ 1048576 := by omega
      have Hml := Lib.hid (show ∀ r ∈ m, r.length ≤ 1048576 from fun r hr => by have := hm.2.2 r hr; omega)
      obtain ⟨x, hxx⟩ : ∃ x, x = cmL m := ⟨_, rfl⟩
      rw [← hxx] at hm hs2
      have Hx := Lib.hid hxx
      have hx10 := hm.1
      have hcl : cmL m ≤ 1048576 := by rw [← hxx]; omega
      obtain ⟨q, hq⟩ : ∃ q : Nat, q = 2 ^ x := ⟨_, rfl⟩
      rw [← hq] at hs2
      have hp : (2 : Int) ^ x = (q : Int) := by rw [hq]; simp
      have hq1 : q ≤ 1000 := by omega
      have hw2 : IntKind.i64.wrap ((2 : Int) ^ x) = (q : Int) := by rw [hp]; exact IntWalk.i64_in _ (by omega)
      have hsb : s ≤ 1000 := by omega
      have hs3 := Lib.hid (show (s + q) + wcL (ll.drop (k + 1)) = wcL ll by omega)
      have Hrw := Lib.hid hrw
      clear hx hd hs hs2 hrw hm hM hxx hq
      go_wp2_with fail
      (refine (CountMinus_i A1 M c1 m _ HM.out hMl Hml.out hcl Hrw.out).mono ?_; rintro e w2 ⟨rfl, hb2⟩; rw [← Hx.out]; replace hB := bl_trans hB hb2; clear hb2)
      go_wp2_with fail
      go_roundw
      case rel => exact ⟨k + 1, s + q, by omega, by go_num, by go_num, hs3, hB⟩
      case measure => simp [intOf]; omega
    · obtain rfl : k = N := by omega
      have hs2 := hs.out
      rw [List.drop_eq_nil_of_le (by rw [← HN.out]; exact Nat.le_refl _)] at hs2
      have Hs2 := Lib.hid (show s = wcL ll by simpa [wcL] using hs2)
      clear hs hs2
      go_wp2_with fail
      go_ret
      exact ⟨ret_int (by rw [← Hs2.out]), bl_trans HB1.out hB⟩
/-- rows that could be read in a world that was -/
def RowAt (w0 : World) (_ : World) (u : Value) (l : List Int) : Prop := ∃ A c, u = .slice A l.length c ∧ RdI w0 A l
theorem fam_At (w0 : World) : Fam 24 (RowAt w0) where
  bel h _ := h
  far h _ _ := h
  one h := by obtain ⟨A, c, rfl, _⟩ := h; rfl
def OwAt (w0 : World) := OwS 24 (RowAt w0)
theorem OwAt.rd {B : Nat} {w0 w : World} {A : Option Addr} {n c : Nat} {ll : List (List Int)} (h : OwAt w0 B w (.slice A n c) ll) (hb : Below w0.heap.size w0 w) : RdII w A ll := by
  have h1 := OwS.rd (R := fun _ A l => RdI w0 A l) (len := List.length) (fun h => h) h
  obtain ⟨vs, h2, h3⟩ := h1
  refine ⟨vs, h2, fun i l hl => ?_⟩
  obtain ⟨A', c', e, hr⟩ := h3 i l hl
  exact ⟨A', c', e, hr.below hb⟩
theorem wpList_apAt {wr : World} {ops : Array Oper} {rest : List Oper} {o : Oper} {a : Act} {Q : Exit → Act → World → Prop} (hgd : o.guard = none) (s x : Operand) (ho : o.op = .call { callee := .builtin .append, args := #[s, x], argTypes := #[76, 76] })
    (w0 : World) (B : Nat) (v : Value) (ll : List (List Int)) (u : Value) (l : List Int) (hs : a.eval s = v) (hx : a.eval x = .slice (some ⟨wr.heap.size, 0, none⟩) 1 1) (hown : OwAt w0 B wr v ll) (hu : RowAt w0 wr u l) (hB : B ≤ wr.heap.size) (hn : ll.length ≤ 1048576)
    (h : ∀ A' L c' w1, Hid (L = (ll ++ [l]).length) → OwAt w0 B w1 (.slice A' L c') (ll ++ [l]) → (∀ w, Below B w wr → Below B w w1) → wr.grownBy w1 v.ownBlock → wr.heap.size + 1 ≤ w1.heap.size → wpList Try.prog ops Q rest (a.put o.dst (.slice A' L c')) w1) :
    wpList Try.prog ops Q (o :: rest) a (wr.alloc (.cells #[u] 24)) := by
  obtain ⟨_, vs, o1, o2⟩ := hown
  have hal : Below wr.heap.size wr (wr.alloc (.cells #[u] 24)) := Below.alloc (Below.refl _ _) (Nat.le_refl _) _
  refine append_at (P := Try.prog) hgd s x 76 ho B 24 (.slice none 0 0) 1 24 Try.underlying76 (by kernel_rfl) rfl (by decide) (by decide) v ll.length vs [u] hs hx o1 rfl (by intro y hy; simp at hy; subst hy; exact (fam_At w0).one hu) hn hB (fun v' w1 g1 g2 g3 => ?_)
  have g2' := grown_bel hal g2
  obtain ⟨A', c', rfl⟩ := own_form g1
  have := OwS.snoc (T := 24) (O := RowAt w0) (fam_At w0) (B := B) (ll := ll) (w := wr) (fun i l hl => o2 i l hl) (by have := o1.1; omega) hu g1 g2' (own_typ o1)
  rw [show ll.length + 1 = (ll ++ [l]).length by simp] at this ⊢
  exact h A' _ c' w1 (Lib.hid rfl) this (fun w hb => below_grown o1 hB hb g2) g2' (by have := g2.size; simpa using this)
end Go.Proofs.Ytdcjhfmkkcakhaa

/-
  The reference's draw of a matrix with alternating signs: it is one of the list's. No condition but the size of the bytes.
-/
import Derived.Test.YtdcjhfmkkcakhaaDraw
import Derived.Test.YtdcjhfmkkcakhaaL25T
namespace Go.Proofs.Ytdcjhfmkkcakhaa
open Go.ChangeShapes Go.WideShapes Go.ChangeAt Go.RowKit Go.Deep
set_option linter.unusedVariables false
theorem spL_num : ∀ n : Fin 5, (decide (1 ≤ (spL n.1).length) || decide (n.1 = 0)) && decide ((spL n.1).length ≤ 42) = true := by decide +kernel
set_option maxHeartbeats 1000000 in
theorem l25Matrix_any (g : Nat) (w : World) (h : Cur w g) :
    Calls Try.prog 131 #[.pointer (some ⟨g, 0, none⟩)] w fun e w' => ∃ (n : Nat) (m : List (List Int)) (A : Option Addr) (c : Nat), e = .returned (.slice A m.length c) ∧ 1 ≤ n ∧ n ≤ 4 ∧ m ∈ spL n ∧ RdII w' A m ∧ Drawn g w w' := by
  go_enter Try.func131, Try.ntmps131
  go_wp2_with fail
  (refine (l01Below_any g 4 _ (by decide) (by decide) h).mono ?_; rintro e w1 ⟨x, rfl, hx, hd⟩)
  obtain ⟨n, hn⟩ : ∃ n : Nat, n = x + 1 := ⟨_, rfl⟩
  have hw : (1 : Int) + (x : Int) = (n : Int) := by omega
  have h1 : 1 ≤ n := by omega
  have h4 : n ≤ 4 := by omega
  have hin : inB (n : Int) 1 4 = true := inB_true.2 ⟨by omega, by omega⟩
  have hL := Lib.hid (show altL (n : Int) = spL n by rw [altL, hin]; rfl)
  have hnum := spL_num ⟨n, by omega⟩
  have hN : 1 ≤ (spL n).length ∧ (spL n).length ≤ 42 := by
    simp only [Bool.and_eq_true, Bool.or_eq_true, decide_eq_true_eq] at hnum
    omega
  obtain ⟨N, hNe⟩ : ∃ N, N = (spL n).length := ⟨_, rfl⟩
  rw [← hNe] at hN
  have HNe := Lib.hid hNe
  have Hd := Lib.hid hd
  clear hn hnum hin hNe hd
  go_wp2_with fail
  (refine (ListAlternating_s (n : Int) _).mono ?_; rintro e w2 ⟨v, rfl, i2, hb2⟩; rw [hL.out] at i2; obtain ⟨⟨A2, c2, rfl⟩, _⟩ := id i2; rw [← HNe.out] at i2 ⊢; have I2 := Lib.hid i2; have Hd2 := Lib.hid (Hd.out.bel hb2); have hs2 := hb2.size; have hg1 := Hd.out.1.lt; clear i2 hb2)
  go_wp2_with fail
  (refine (l01Below_any g N _ (by omega) (by omega) Hd2.out.1).mono ?_; rintro e w3 ⟨y, rfl, hy, hd3⟩)
  have I3 : InIII w1.heap.size w2.heap.size w3 (.slice A2 N c2) (spL n) := InS.loc famR_II I2.out (Same.of_grown hd3.2 (fun k hk => by injection hk with hk; omega))
  obtain ⟨b, off, l, A', c', rfl, hb, hl, _, hr, hc⟩ := I3.rd.at_ (k := y) (by rw [← HNe.out]; exact hy)
  have Hr := Lib.hid hr
  have Hd3 := Lib.hid hd3
  have Hl := Lib.hid (List.mem_of_getElem? hl)
  clear hr hd3 hl I3
  go_wp2_with fail
  go_ret
  exact ⟨n, l, A', c', rfl, h1, h4, Hl.out, Hr.out, Hd2.out.trans Hd3.out⟩
theorem DrawAlternating_any (A : Option Addr) (c : Nat) (l : List Int) (w : World) (hl : l.length ≤ 1048576) (hr : RdB w A l) :
    Calls Try.prog 50 #[.slice A l.length c] w fun e w' => ∃ (n : Nat) (m : List (List Int)) (A : Option Addr) (c : Nat), e = .returned (.slice A m.length c) ∧ 1 ≤ n ∧ n ≤ 4 ∧ m ∈ spL n ∧ RdII w' A m ∧ Below w.heap.size w w' := by
  go_enter Try.func50, Try.ntmps50
  go_wp2_with fail
  (refine (l01New_any A c l _ hl hr).mono ?_; rintro e w1 ⟨g, rfl, hg, hc, hb⟩)
  go_wp2_with fail
  (refine (l25Matrix_any g _ hc).mono ?_; rintro e w2 ⟨n, m, A2, c2, rfl, h1, h4, hm, hr2, hd⟩)
  go_wp2_with fail
  go_ret
  exact ⟨n, m, A2, c2, rfl, h1, h4, hm, hr2, hb.grown hd.2 hb.size (fun k hk => by injection hk with hk; omega)⟩
end Go.Proofs.Ytdcjhfmkkcakhaa

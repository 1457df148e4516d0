/-
  Lists of matrices of integers: how they read, which a call made itself; the laws' own comparison, mark and look at the mark; at most 1048576 elements.
-/
import Derived.Test.YtdcjhfmkkcakhaaIntSS
namespace Go.Proofs.Ytdcjhfmkkcakhaa
open Go.ChangeShapes Go.WideShapes Go.ChangeAt Go.RowKit Go.Deep
set_option linter.unusedVariables false

theorem InII.at2 {lo hi : Nat} {w : World} {A : Option Addr} {n c : Nat} {ll : List (List Int)} (h : InII lo hi w (.slice A n c) ll) : n = ll.length := InS.len h
theorem famR_II : FamR InII where
  loc h hs := InS.loc famR_I h hs
  one h := by obtain ⟨⟨A, c, rfl⟩, _⟩ := h; rfl
def RdIII := RdS RdII List.length
def InIII := InS 76 InII
theorem RdIII.at_ {w : World} {A : Option Addr} {ll : List (List (List Int))} (h : RdIII w A ll) {k : Nat} (hk : k < ll.length) :
    ∃ b off l A' c, A = some ⟨b, off, none⟩ ∧ b < w.heap.size ∧ ll[k]? = some l ∧ ll.drop k = l :: ll.drop (k + 1) ∧ RdII w A' l ∧ w.cell? ⟨b, off + k, none⟩ = some (.slice A' l.length c) := RdS.at_ h hk
theorem RdIII.below {w w' : World} {A : Option Addr} {ll : List (List (List Int))} (h : RdIII w A ll) (hb : Below w.heap.size w w') : RdIII w' A ll := RdS.below (fun h => h.below hb) h hb
theorem InIII.bel {lo hi : Nat} {w w' : World} {v : Value} {ll : List (List (List Int))} (h : InIII lo hi w v ll) (hb : Below w.heap.size w w') : InIII lo hi w' v ll := InS.bel famR_II h hb
theorem InIII.rd {lo hi : Nat} {w : World} {A : Option Addr} {n c : Nat} {ll : List (List (List Int))} (h : InIII lo hi w (.slice A n c) ll) : RdIII w A ll :=
  InS.rd (fun h => by obtain ⟨A, c, rfl⟩ := h.1; exact ⟨A, c, rfl, h.rd⟩) h
theorem InIII.form {lo hi : Nat} {w : World} {v : Value} {ll : List (List (List Int))} (h : InIII lo hi w v ll) : ∃ A c, v = .slice A ll.length c := h.1
def tot3 (m : List (List (List Int))) : Nat := (m.map tot).sum
theorem tot3_cons (l : List (List Int)) (ll : List (List (List Int))) : tot3 (l :: ll) = tot l + tot3 ll := by simp [tot3]
theorem tot3_take {ll : List (List (List Int))} {k : Nat} {l : List (List Int)} (h : ll[k]? = some l) : tot3 (ll.take (k + 1)) = tot3 (ll.take k) + tot l := by
  rw [List.take_add_one, h, tot3, tot3, List.map_append, List.sum_append]
  simp
theorem tot3_take_le (ll : List (List (List Int))) (k : Nat) : tot3 (ll.take k) ≤ tot3 ll := by
  induction ll generalizing k with
  | nil => simp
  | cons l ll ih =>
    cases k with
    | zero => simp [tot3]
    | succ k =>
      have := ih k
      rw [List.take_succ_cons, tot3_cons, tot3_cons]
      omega
end Go.Proofs.Ytdcjhfmkkcakhaa

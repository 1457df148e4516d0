/-
  The reference's draw of dominoes of which no two overlap (DrawTouching): what it returns. No condition but the size of the bytes.
-/
import Derived.Test.YtdcjhfmkkcakhaaGrD
namespace Go.Proofs.Ytdcjhfmkkcakhaa
open Go.ChangeShapes Go.WideShapes Go.ChangeAt Go.RowKit Go.Deep
set_option linter.unusedVariables false
theorem OwD.cap {B : Nat} {w : World} {A : Option Addr} {n c : Nat} {l : List Dm} (h : OwD B w (.slice A n c) l) : n ≤ c := by
  rcases h.2.1.2 with ⟨e, h0⟩ | ⟨g, cap, cur, hv, _, _, hn, _⟩
  · injection e with e1 e2 e3; omega
  · obtain ⟨⟨A', c', e⟩, _⟩ := h
    injection e with e1 e2 e3
    injection hv with f1 f2 f3
    omega
theorem RdD.take {w : World} {A : Option Addr} {l : List Dm} (h : RdD w A l) {k : Nat} (hk : k ≤ l.length) : RdD w A (l.take k) := by
  refine ⟨?_, fun x hx => h.2 x (List.mem_of_mem_take hx)⟩
  have := h.1.take hk
  have e : (l.take k).length = k := by rw [List.length_take]; omega
  have e2 : (l.flatMap cD).take (k * 3) = (l.take k).flatMap cD := by
    have h1 : l.flatMap cD = (l.take k).flatMap cD ++ (l.drop k).flatMap cD := by rw [← List.flatMap_append, List.take_append_drop]
    have h2 : ((l.take k).flatMap cD).length = k * 3 := by rw [flatMap_len cD 3 (fun _ => rfl), e]
    rw [h1, ← h2, List.take_left]
  rw [e2] at this
  rwa [e]
set_option maxHeartbeats 1000000 in
theorem l31List_any (g : Nat) (w : World) (h : Cur w g) :
    Calls Try.prog 138 #[.pointer (some ⟨g, 0, none⟩)] w fun e w' => ∃ (A : Option Addr) (c : Nat) (l : List Dm), e = .returned (.slice A l.length c) ∧ Dis l ∧ l.length ≤ 14 ∧ RdD w' A l ∧ l.length ≤ c ∧ Drawn g w w' := by
  go_enter Try.func138, Try.ntmps138
  go_wp2_with fail
  (refine (l03Region_any g _ h).mono ?_; rintro e w1 ⟨A, rs, c, rfl, hok, o1, hd1⟩)
  have P := Blk.new w1 31 [.slice A rs.length c]
  have Pc := P.c1
  have hd2 := Lib.hid (hd1.bel (Below.alloc (Below.refl _ _) (Nat.le_refl _) (.cells #[.slice A rs.length c] 31)))
  have Hrow := Lib.hid ((o1.bel (Below.alloc (Below.refl _ _) (Nat.le_refl _) (.cells #[.slice A rs.length c] 31))).mono (Nat.zero_le _))
  clear o1 hd1
  go_wp2_with fail
  (refine (l06Greedy_any g A c rs _ hd2.out.1 hok Hrow.out).mono ?_; rintro e w2 ⟨v, l, rfl, o2, hdis, hl64, hd3⟩; obtain ⟨⟨A2, c2, rfl⟩, _⟩ := id o2; have hcap := o2.cap; have Hrd := Lib.hid o2.rd; have Hd := Lib.hid (hd2.out.trans hd3); clear o2 hd3)
  by_cases h14 : l.length > 14
  · have q1 : decide ((l.length : Int) > 14) = true := decide_eq_true (by omega)
    have e14 : (l.take 14).length = 14 := by rw [List.length_take]; omega
    have H14 := Lib.hid e14
    have hc14 : (14 : Int) ≤ (c2 : Int) := by omega
    have hc14' : 14 ≤ c2 := by omega
    have Hdis := Lib.hid hdis
    have hl' : 14 ≤ l.length := by omega
    clear e14 hdis
    go_wp2_with fail
    go_ret
    exact ⟨A2, c2, l.take 14, by rw [H14.out]; rfl, Hdis.out.take 14, by rw [H14.out]; exact Nat.le_refl _, Hrd.out.take hl', by rw [H14.out]; exact hc14', Hd.out⟩
  · have q1 : decide ((l.length : Int) > 14) = false := decide_eq_false (by omega)
    go_wp2_with fail
    go_ret
    exact ⟨A2, c2, l, rfl, hdis, by omega, Hrd.out, hcap, Hd.out⟩
theorem DrawTouching_any (A : Option Addr) (c : Nat) (l : List Int) (w : World) (hl : l.length ≤ 1048576) (hr : RdB w A l) :
    Calls Try.prog 57 #[.slice A l.length c] w fun e w' => ∃ (A : Option Addr) (c : Nat) (l : List Dm), e = .returned (.slice A l.length c) ∧ apart l = true ∧ l.length ≤ 14 ∧ RdD w' A l ∧ l.length ≤ c ∧ Below w.heap.size w w' := by
  go_enter Try.func57, Try.ntmps57
  go_wp2_with fail
  (refine (l01New_any A c l _ hl hr).mono ?_; rintro e w1 ⟨g, rfl, hg, hc, hb⟩)
  go_wp2_with fail
  (refine (l31List_any g _ hc).mono ?_; rintro e w2 ⟨A2, c2, l2, rfl, hdis, hl14, hr2, hcap, hd⟩)
  go_wp2_with fail
  go_ret
  exact ⟨A2, c2, l2, rfl, hdis.apart (by omega), hl14, hr2, hcap, hb.grown hd.2 hb.size (fun k hk => by injection hk with hk; omega)⟩
end Go.Proofs.Ytdcjhfmkkcakhaa

/-
  The plain law of FnLayings: dominoes that hang together from a door on can be laid one after the other. No program in sight. Under way.
-/
import Derived.Test.YtdcjhfmkkcakhaaFind
import Derived.Test.YtdcjhfmkkcakhaaReaP
import Derived.Test.YtdcjhfmkkcakhaaDoorP
namespace Go.Proofs.Ytdcjhfmkkcakhaa
open Go.ChangeShapes Go.WideShapes Go.ChangeAt Go.RowKit Go.Deep
set_option linter.unusedVariables false

theorem nextAt_prop2 {list out : List Dm} : ∀ (f j a : Nat), nextAt list out f j = some a → canAt list out a = true ∧ a < j + f ∧ ∀ i, j ≤ i → i < a → canAt list out i = false := by
  intro f
  induction f with
  | zero => intro j a h; cases h
  | succ f ih =>
    intro j a h
    rw [nextAt] at h
    split at h
    · rename_i hc
      injection h with h
      subst h
      exact ⟨hc, by omega, fun i h1 h2 => by omega⟩
    · rename_i hc
      obtain ⟨h1, h2, h3⟩ := ih _ _ h
      refine ⟨h1, by omega, fun i h4 h5 => ?_⟩
      rcases Nat.lt_or_ge j i with h6 | h6
      · exact h3 i h6 h5
      · rw [show i = j by omega]; simpa using hc
def Chn : List Dm → Prop
  | [] => True
  | [_] => True
  | d :: e :: l => (∃ x ∈ e :: l, tch d x = true) ∧ Chn (e :: l)
theorem Chn.cons {d : Dm} {out : List Dm} (h : Chn out) (hne : out ≠ []) (ht : out.any (tch d) = true) : Chn (d :: out) := by
  cases out with
  | nil => exact absurd rfl hne
  | cons e l =>
    obtain ⟨x, hx, h2⟩ := List.any_eq_true.1 ht
    exact ⟨⟨x, hx, h2⟩, h⟩
theorem Chn.tail {d : Dm} {out : List Dm} (h : Chn (d :: out)) : Chn out := by
  cases out with
  | nil => trivial
  | cons e l => exact h.2
theorem layL_chn {list : List Dm} : ∀ (f : Nat) (out : List Dm), Chn out → out ≠ [] → Chn (layL list f out) ∧ ∃ pre, layL list f out = pre ++ out := by
  intro f
  induction f with
  | zero => intro out h _; exact ⟨h, [], rfl⟩
  | succ f ih =>
    intro out h hne
    rw [layL]
    cases hk : nextD list out with
    | none => exact ⟨h, [], rfl⟩
    | some k =>
      dsimp only
      cases hd : list[k]? with
      | none => exact ⟨h, [], rfl⟩
      | some d =>
        dsimp only
        have hc : canD out d = true := by
          have := (nextAt_prop2 _ _ _ hk).1
          rwa [canAt_at hd] at this
        unfold canD at hc
        rw [Bool.and_eq_true] at hc
        obtain ⟨h1, pre, h2⟩ := ih (d :: out) (h.cons hne hc.2) (by simp)
        exact ⟨h1, pre ++ [d], by rw [h2]; simp⟩
theorem layL_good {list : List Dm} : ∀ (f : Nat) (out : List Dm), GoodD list out → GoodD list (layL list f out) := by
  intro f
  induction f with
  | zero => intro out h; exact h
  | succ f ih =>
    intro out h
    rw [layL]
    cases hk : nextD list out with
    | none => exact h
    | some k =>
      dsimp only
      cases hd : list[k]? with
      | none => exact h
      | some d =>
        dsimp only
        have hc : canD out d = true := by
          have := (nextAt_prop2 _ _ _ hk).1
          rwa [canAt_at hd] at this
        exact ih _ (h.cons hd hc)
def c1D (d : Dm) : Cl := (d.1, d.2.1)
def c2D (d : Dm) : Cl := (sndX d.1 d.2.2, sndY d.2.1 d.2.2)
theorem tch_nbr {d e : Dm} (h : tch d e = true) : ∃ x ∈ [c1D d, c2D d], ∃ y ∈ [c1D e, c2D e], nbr y.1 y.2 x.1 x.2 = true := by
  unfold tch touch at h
  simp only [Bool.and_eq_true, Bool.or_eq_true] at h
  rcases h.2 with ((h | h) | h) | h
  · exact ⟨c1D d, by simp, c1D e, by simp, by rw [nbr_comm]; exact h⟩
  · exact ⟨c1D d, by simp, c2D e, by simp, by rw [nbr_comm]; exact h⟩
  · exact ⟨c2D d, by simp, c1D e, by simp, by rw [nbr_comm]; exact h⟩
  · exact ⟨c2D d, by simp, c2D e, by simp, by rw [nbr_comm]; exact h⟩
theorem c12_nbr {d : Dm} (h : okD d = true) : cellOk (c1D d).1 (c1D d).2 = true ∧ cellOk (c2D d).1 (c2D d).2 = true ∧ nbr (c1D d).1 (c1D d).2 (c2D d).1 (c2D d).2 = true := by
  obtain ⟨k1, k2⟩ := domOk_cells h
  refine ⟨k1, k2, ?_⟩
  have r1 := cellOk_iff.1 k1
  show nbr d.1 d.2.1 (sndX d.1 d.2.2) (sndY d.2.1 d.2.2) = true
  unfold nbr
  rw [k1, k2, Bool.true_and, Bool.true_and, decide_eq_true_eq]
  cases d.2.2
  · show (d.1 - wrap64 (d.1 + 1)) * (d.1 - wrap64 (d.1 + 1)) + (d.2.1 - d.2.1) * (d.2.1 - d.2.1) = 1
    rw [IntWalk.wrap64_in _ (by omega), show d.1 - (d.1 + 1) = -1 by omega, show d.2.1 - d.2.1 = 0 by omega]; rfl
  · show (d.1 - d.1) * (d.1 - d.1) + (d.2.1 - wrap64 (d.2.1 + 1)) * (d.2.1 - wrap64 (d.2.1 + 1)) = 1
    rw [IntWalk.wrap64_in _ (by omega), show d.2.1 - (d.2.1 + 1) = -1 by omega, show d.1 - d.1 = 0 by omega]; rfl
/-- one cell of a domino reached: both are -/
theorem dom_reach {s : Nat} {c : Cl} {d : Dm} (hc : cellOk c.1 c.2 = true) (h : okD d = true) (h1 : s.testBit (idxN (c1D d)) = true) (h2 : s.testBit (idxN (c2D d)) = true) (hr : c1D d ∈ reachL s c ∨ c2D d ∈ reachL s c) : c1D d ∈ reachL s c ∧ c2D d ∈ reachL s c := by
  obtain ⟨k1, k2, k3⟩ := c12_nbr h
  rcases hr with hr | hr
  · exact ⟨hr, reach_clos hc hr k2 h2 k3⟩
  · exact ⟨reach_clos hc hr k1 h1 (by rw [nbr_comm]; exact k3), hr⟩
theorem chn_reach {s : Nat} {c : Cl} (hc : cellOk c.1 c.2 = true) : ∀ (out : List Dm), Chn out → (∀ d ∈ out, okD d = true ∧ s.testBit (idxN (c1D d)) = true ∧ s.testBit (idxN (c2D d)) = true) → (∀ d, out.getLast? = some d → c = c1D d ∨ c = c2D d) → ∀ d ∈ out, c1D d ∈ reachL s c ∧ c2D d ∈ reachL s c
  | [], _, _, _, d, hd => by cases hd
  | [e], _, hk, hl, d, hd => by
    rw [List.mem_singleton] at hd
    subst hd
    obtain ⟨h1, h2, h3⟩ := hk d (by simp)
    refine dom_reach hc h1 h2 h3 ?_
    rcases hl d (by simp) with e | e
    · exact .inl (by rw [← e]; exact reach_self s c)
    · exact .inr (by rw [← e]; exact reach_self s c)
  | e :: e2 :: l, hch, hk, hl, d, hd => by
    have ih := chn_reach hc (e2 :: l) hch.2 (fun d hd => hk d (List.mem_cons_of_mem _ hd)) (fun d hd => hl d (by rw [List.getLast?_cons_cons]; exact hd))
    rcases List.mem_cons.1 hd with rfl | hd
    · obtain ⟨h1, h2, h3⟩ := hk d List.mem_cons_self
      refine dom_reach hc h1 h2 h3 ?_
      obtain ⟨x, hx, ht⟩ := hch.1
      obtain ⟨a, ha, y, hy, hn⟩ := tch_nbr ht
      have hyr : y ∈ reachL s c := by
        have := ih x hx
        simp only [List.mem_cons, List.not_mem_nil, or_false] at hy
        rcases hy with rfl | rfl
        · exact this.1
        · exact this.2
      obtain ⟨k1, k2, _⟩ := c12_nbr h1
      simp only [List.mem_cons, List.not_mem_nil, or_false] at ha
      rcases ha with rfl | rfl
      · exact .inl (reach_clos hc hyr k1 h2 hn)
      · exact .inr (reach_clos hc hyr k2 h3 hn)
    · exact ih d hd
end Go.Proofs.Ytdcjhfmkkcakhaa

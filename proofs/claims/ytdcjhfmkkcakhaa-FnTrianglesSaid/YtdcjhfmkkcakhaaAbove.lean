/-
  Contracts of the functions on rows above a row (l26Above, eachAbove, CountUnder, countAbove, CountTriangles): what each returns, as a function of its arguments; nothing that was there is written; rows of at most 5 numbers from 1 to 9.
-/
import Derived.Test.YtdcjhfmkkcakhaaSlices
import Derived.Test.YtdcjhfmkkcakhaaRow
import Derived.Test.YtdcjhfmkkcakhaaCopy
import Derived.Deep.DeepMust
import Derived.Laws.EntriesVeiled
import Derived.IntWalk
namespace Go.Proofs.Ytdcjhfmkkcakhaa
open Go.ChangeShapes Go.WideShapes Go.ChangeAt Go.RowKit Go.Deep
set_option linter.unusedVariables false

def okNext (head : List Int) (x : Int) : Bool := decide (head.length = 0) || decide (iAt head (head.length - 1) < x)
/-- the rows that extend a head by f numbers more -/
def abv (below : List Int) : Nat → List Int → List (List Int)
  | 0, head => [head]
  | f + 1, head => (List.range (iAt below (head.length + 1) + 1 - iAt below head.length).toNat).flatMap fun (i : Nat) =>
      if okNext head (iAt below head.length + i) then abv below f (head ++ [iAt below head.length + i]) else []
def abvTo (below : List Int) (f : Nat) (head : List Int) (k : Nat) : List (List Int) :=
  (List.range k).flatMap fun (i : Nat) => if okNext head (iAt below head.length + i) then abv below f (head ++ [iAt below head.length + i]) else []
theorem abvTo_succ (below : List Int) (f : Nat) (head : List Int) (k : Nat) :
    abvTo below f head (k + 1) = abvTo below f head k ++ (if okNext head (iAt below head.length + k) then abv below f (head ++ [iAt below head.length + k]) else []) := by
  unfold abvTo
  rw [List.range_succ, List.flatMap_append, List.flatMap_cons, List.flatMap_nil, List.append_nil]
theorem abv_succ (below : List Int) (f : Nat) (head : List Int) : abv below (f + 1) head = abvTo below f head (iAt below (head.length + 1) + 1 - iAt below head.length).toNat := rfl
theorem iAt_rng {l : List Int} {P : Int → Prop} (h : ∀ x ∈ l, P x) {i : Nat} (hi : i < l.length) : P (iAt l i) := by
  rw [iAt_eq (List.getElem?_eq_getElem hi)]; exact h _ (List.getElem_mem hi)
theorem flat_len {α β : Type} (f : α → List β) (m : Nat) (l : List α) (h : ∀ x ∈ l, (f x).length ≤ m) : (l.flatMap f).length ≤ l.length * m := by
  induction l with
  | nil => simp
  | cons x l ih =>
    rw [List.flatMap_cons, List.length_append, List.length_cons, Nat.succ_mul]
    have := h x (by simp)
    have := ih (fun y hy => h y (by simp [hy]))
    omega
theorem abv_len {below : List Int} (h9 : ∀ x ∈ below, 1 ≤ x ∧ x ≤ 9) : ∀ (f : Nat) (head : List Int), below.length = head.length + f + 1 → (abv below f head).length ≤ 9 ^ f := by
  intro f
  induction f with
  | zero => intro head _; simp [abv]
  | succ f ih =>
    intro head hl
    have h1 := iAt_rng h9 (i := head.length) (by omega)
    have h2 := iAt_rng h9 (i := head.length + 1) (by omega)
    refine Nat.le_trans (flat_len _ (9 ^ f) _ fun i hi => ?_) ?_
    · split
      · exact ih _ (by simp; omega)
      · simp
    · rw [List.length_range, Nat.pow_succ, Nat.mul_comm (9 ^ f)]
      exact Nat.mul_le_mul_right _ (by omega)
theorem abvTo_len {below : List Int} (h9 : ∀ x ∈ below, 1 ≤ x ∧ x ≤ 9) (f : Nat) (head : List Int) (hl : below.length = head.length + (f + 1) + 1) (k : Nat) (hk : k ≤ 9) : (abvTo below f head k).length ≤ 9 ^ (f + 1) := by
  refine Nat.le_trans (flat_len _ (9 ^ f) _ fun i hi => ?_) ?_
  · split
    · exact abv_len h9 f _ (by simp; omega)
    · simp
  · rw [List.length_range, Nat.pow_succ, Nat.mul_comm (9 ^ f)]
    exact Nat.mul_le_mul_right _ hk
theorem pow9 {f : Nat} (h : f ≤ 4) : 9 ^ f ≤ 6561 := Nat.le_trans (Nat.pow_le_pow_right (by decide) h) (by decide)
theorem abv_mem {below : List Int} (h9 : ∀ x ∈ below, 1 ≤ x ∧ x ≤ 9) : ∀ (f : Nat) (head : List Int), below.length = head.length + f + 1 → (∀ x ∈ head, 1 ≤ x ∧ x ≤ 9) → ∀ r ∈ abv below f head, r.length + 1 = below.length ∧ ∀ x ∈ r, 1 ≤ x ∧ x ≤ 9 := by
  intro f
  induction f with
  | zero => intro head hl hh r hr; simp [abv] at hr; subst hr; exact ⟨by omega, hh⟩
  | succ f ih =>
    intro head hl hh r hr
    have h1 := iAt_rng h9 (i := head.length) (by omega)
    have h2 := iAt_rng h9 (i := head.length + 1) (by omega)
    rw [abv_succ, abvTo] at hr
    obtain ⟨i, hi, hr⟩ := List.mem_flatMap.1 hr
    rw [List.mem_range] at hi
    split at hr
    · refine ih (head ++ [iAt below head.length + i]) (by simp; omega) ?_ r hr
      intro x hx
      rcases List.mem_append.1 hx with hx | hx
      · exact hh x hx
      · simp at hx; subst hx; omega
    · simp at hr
def totg (g : List Int → Int) (ll : List (List Int)) : Int := (ll.map g).sum
theorem totg_app (g : List Int → Int) (a b : List (List Int)) : totg g (a ++ b) = totg g a + totg g b := by simp [totg]
theorem totg_nil (g : List Int → Int) : totg g [] = 0 := rfl
theorem totg_one (g : List Int → Int) (r : List Int) : totg g [r] = g r := by simp [totg]
theorem totg_nonneg {g : List Int → Int} (h : ∀ r, 0 ≤ g r) (ll : List (List Int)) : 0 ≤ totg g ll := by
  induction ll with
  | nil => simp [totg]
  | cons r ll ih => have := h r; simp only [totg, List.map_cons, List.sum_cons] at *; omega
theorem totg_le {g : List Int → Int} (h : ∀ r, 0 ≤ g r) (below : List Int) (f : Nat) (head : List Int) {k n : Nat} (hk : k ≤ n) : totg g (abvTo below f head k) ≤ totg g (abvTo below f head n) := by
  induction n with
  | zero => obtain rfl : k = 0 := by omega
            exact Int.le_refl _
  | succ n ih =>
    rcases Nat.lt_or_ge n k with hlt | hge
    · obtain rfl : k = n + 1 := by omega
      exact Int.le_refl _
    · have := ih hge
      rw [abvTo_succ, totg_app]
      have := totg_nonneg h (if okNext head (iAt below head.length + n) then abv below f (head ++ [iAt below head.length + n]) else [])
      omega
/-- what a function that is called for each row does: it adds a number to its one captured variable -/
def Adds (fc : Nat) (bn : Nat) (P : List Int → Prop) (g : List Int → Int) (top : Int) : Prop :=
  (∀ (args : Array Value) (w : World), (callFunc fc args).run Try.prog w = .ok (.enter fc args) w) ∧ ∀ (A : Option Addr) (N c : Nat) (r : List Int) (s : Int) (w : World), N = r.length → P r → RdI w A r → Blk w bn 3 [.int .i64 s] → 0 ≤ s → s + g r ≤ top →
    Calls Try.prog fc #[.slice A N c, .pointer (some ⟨bn, 0, none⟩)] w fun e w' => e = .returned (.tuple #[]) ∧ Blk w' bn 3 [.int .i64 (s + g r)] ∧ w.grownBy w' (some bn)
def fnv (fc bn : Nat) : Value := .func (.func fc) #[] #[.pointer (some ⟨bn, 0, none⟩)]
def slf (Z : Nat) : Value := .func (.func 199) #[] #[.pointer (some ⟨Z + 3, 0, none⟩), .pointer (some ⟨Z, 0, none⟩), .pointer (some ⟨Z + 1, 0, none⟩), .pointer (some ⟨Z + 4, 0, none⟩)]
/-- the variables of eachAbove, as its closure finds them -/
structure EA (N0 Z bn fc M c : Nat) (A : Option Addr) (head : List Int) (s : Int) (w0 w : World) : Prop where
  bel : Below N0 w0 w
  row : ∃ A' L c', Blk w (Z + 3) 24 [.slice A' L c'] ∧ OwI (Z + 2) w (.slice A' L c') head
  below : Blk w Z 24 [.slice A M c]
  call : Blk w (Z + 1) 154 [fnv fc bn]
  rest : Blk w (Z + 4) 1 [slf Z]
  num : Blk w bn 3 [.int .i64 s]
theorem EA.bel_ {N0 Z bn fc M c : Nat} {A : Option Addr} {head : List Int} {s : Int} {w0 w w1 : World} (h : EA N0 Z bn fc M c A head s w0 w) (hb : Below w.heap.size w w1) (hN : N0 ≤ w.heap.size) : EA N0 Z bn fc M c A head s w0 w1 := by
  obtain ⟨h1, ⟨A', L, c', h2, h3⟩, h4, h5, h6, h7⟩ := h
  exact ⟨h1.trans (hb.mono hN), ⟨A', L, c', h2.bel hb, h3.bel hb⟩, h4.bel hb, h5.bel hb, h6.bel hb, h7.bel hb⟩
theorem EA.num_ {N0 Z bn fc M c : Nat} {A : Option Addr} {head : List Int} {s s' : Int} {w0 w w1 : World} (h : EA N0 Z bn fc M c A head s w0 w) (hN : N0 ≤ bn) (hZ : bn < Z) (hg : w.grownBy w1 (some bn)) (hn : Blk w1 bn 3 [.int .i64 s']) : EA N0 Z bn fc M c A head s' w0 w1 := by
  obtain ⟨h1, ⟨A', L, c', h2, h3⟩, h4, h5, h6, h7⟩ := h
  have hf : ∀ {g : Nat} {E : TypeId} {xs : List Value}, Blk w g E xs → g ≠ bn → Blk w1 g E xs := fun hb hne => (hg.block _ hb.lt (by simpa using hne)).trans hb
  refine ⟨h1.grown hg (Nat.le_trans hN (Nat.le_of_lt h7.lt)) (fun k hk => by injection hk with hk; omega), ⟨A', L, c', hf h2 (by omega), ⟨h3.1, h3.2.1.kept hg ?_, h3.2.2⟩⟩, hf h4 (by omega), hf h5 (by omega), hf h6 (by omega), hn⟩
  cases hv : (Value.slice A' L c').ownBlock with
  | none => exact .inl rfl
  | some k => refine .inr fun e => ?_
              have := (h3.2.1.lt k hv).1
              injection e with e
              omega
theorem EA.app_ {N0 Z bn fc M c : Nat} {A : Option Addr} {head l2 : List Int} {s : Int} {w0 w w1 : World} {A' A2 : Option Addr} {L c' L2 c2 : Nat} (h : EA N0 Z bn fc M c A head s w0 w) (hZ : bn < Z) (hN : N0 ≤ Z)
    (h2 : Blk w (Z + 3) 24 [.slice A' L c']) (h3 : OwI (Z + 2) w (.slice A' L c') head) (o2 : OwI (Z + 2) w1 (.slice A2 L2 c2) l2) (hg : w.grownBy w1 (Value.slice A' L c').ownBlock) :
    Blk w1 (Z + 3) 24 [.slice A' L c'] ∧ EA N0 Z bn fc M c A l2 s w0 (w1.setCell ⟨Z + 3, 0, none⟩ (.slice A2 L2 c2)) := by
  obtain ⟨h1, _, h4, h5, h6, h7⟩ := h
  have e2 := h2.far' hg (h3.typ h2 (by decide))
  have e4 := h4.far' hg (h3.typ h4 (by decide))
  have e5 := h5.far' hg (h3.typ h5 (by decide))
  have e6 := h6.far' hg (h3.typ h6 (by decide))
  have e7 := h7.far' hg (fun k hk => by have := (h3.2.1.lt k hk).1; omega)
  refine ⟨e2, Below.setCell (h1.grown hg (Nat.le_trans hN (Nat.le_of_lt h4.lt)) (fun k hk => by have := (h3.2.1.lt k hk).1; omega)) (p := ⟨Z + 3, 0, none⟩) (by show N0 ≤ Z + 3; omega) _, ⟨A2, L2, c2, e2.set_ 0 _, o2.setFar ?_ _⟩, e4.farN _ _ (by omega) _, e5.farN _ _ (by omega) _, e6.farN _ _ (by omega) _, e7.farN _ _ (by omega) _⟩
  cases hv : (Value.slice A2 L2 c2).ownBlock with
  | none => exact .inl rfl
  | some k => refine .inr fun e => ?_
              injection e with e
              exact o2.typ e2 (by decide) k hv e.symm
theorem EA.pop_ {N0 Z bn fc M c : Nat} {A : Option Addr} {head : List Int} {x s : Int} {w0 w : World} {A' : Option Addr} {L L' c' : Nat} (h : EA N0 Z bn fc M c A (head ++ [x]) s w0 w) (hZ : bn < Z) (hN : N0 ≤ Z) (hL : L = head.length)
    (h2 : Blk w (Z + 3) 24 [.slice A' L' c']) (h3 : OwI (Z + 2) w (.slice A' L' c') (head ++ [x])) : EA N0 Z bn fc M c A head s w0 (w.setCell ⟨Z + 3, 0, none⟩ (.slice A' L c')) := by
  have o2 := h3.take (k := L) (by rw [hL]; simp)
  rw [hL, List.take_left] at o2
  rw [← hL] at o2
  exact (h.app_ hZ hN h2 h3 o2 (World.grownBy.refl w _)).2
set_option maxRecDepth 100000 in
set_option maxHeartbeats 4000000 in
theorem eachAbove1_zero (w0 : World) (below : List Int) (h9 : ∀ x ∈ below, 1 ≤ x ∧ x ≤ 9) (A : Option Addr) (M c : Nat) (hM : M = below.length) (hM5 : M ≤ 5) (hr0 : RdI w0 A below) (Z bn fc : Nat) (hZ1 : w0.heap.size ≤ bn) (hZ2 : bn < Z)
    (g : List Int → Int) (hg : ∀ r, 0 ≤ g r) (top : Int) (htop : top ≤ 4611686018427387904) (hcall : Adds fc bn (fun r => r.length + 1 = M ∧ ∀ x ∈ r, 1 ≤ x ∧ x ≤ 9) g top) : ∀ (head : List Int) (s : Int) (w : World), M = head.length + 0 + 1 → (∀ x ∈ head, 1 ≤ x ∧ x ≤ 9) → 0 ≤ s → s + totg g (abv below 0 head) ≤ top → EA w0.heap.size Z bn fc M c A head s w0 w →
    Calls Try.prog 199 #[.pointer (some ⟨Z + 3, 0, none⟩), .pointer (some ⟨Z, 0, none⟩), .pointer (some ⟨Z + 1, 0, none⟩), .pointer (some ⟨Z + 4, 0, none⟩)] w fun e w' => e = .returned (.tuple #[]) ∧ EA w0.heap.size Z bn fc M c A head (s + totg g (abv below 0 head)) w0 w' := by
  have HM := Lib.hid hM
  have Hcall := Lib.hid hcall
  have Hg := Lib.hid hg
  have H9 := Lib.hid h9
  have Hr0 := Lib.hid hr0
  clear hM hcall hg h9 hr0
  intro head s w hl hh hs hst E
  obtain ⟨A', L, c', brow, orow⟩ := E.row
  have hL := orow.len
  have cr := brow.c1
  have cb := E.below.c1
  have cc := E.call.c1
  have e0 : ((L : Int) == (M : Int) - 1) = true := by simp; omega
  have HL := Lib.hid hL
  have Hl := Lib.hid hl
  have Hh := Lib.hid hh
  have HE := Lib.hid E
  have hL5 : L ≤ 5 := by omega
  have Horow := Lib.hid orow
  unfold fnv at cc
  clear hL hl hh orow
  go_enter Try.func199, Try.ntmps199
  go_wp2_with fail
  have hW := Below.refl w.heap.size w
  have hP : head.length + 1 = M ∧ ∀ x ∈ head, 1 ≤ x ∧ x ≤ 9 := ⟨by have := HL.out; have := Hl.out; omega, Hh.out⟩
  have hst2 : s + g head ≤ top := by rw [show totg g (abv below 0 head) = g head from totg_one g head] at hst; exact hst
  have HP := Lib.hid hP
  have hent := Hcall.out.1
  clear hP
  go_region_held3 (fun w' => w'.cell? ⟨Z + 3, 0, none⟩ = some (.slice A' L c') ∧ w'.cell? ⟨Z + 1, 0, none⟩ = some (.func (.func fc) #[] #[.pointer (some ⟨bn, 0, none⟩)])) (go_keep)
    (first | (go_at_call 194; go_must (refine (copyOf_any A' L c' head _ HL.out (by omega) (Horow.out.rd.below (bl_trans hW (by go_grown)))).mono ?_; rintro e w1 ⟨v1, rfl, o1, hb1⟩; replace hW := bl_trans (bl_trans hW (by go_grown)) hb1; obtain ⟨⟨A1, c1, rfl⟩, _⟩ := id o1; have O1 := Lib.hid o1; replace brow := brow.bel (bl_trans (by go_grown) hb1); replace cr := brow.c1; have bcall := HE.out.call.bel (bl_trans (by go_grown) hb1); replace cc := bcall.c1; unfold fnv at cc; clear o1 hb1)) | (refine (Hcall.out.2 _ _ _ _ _ _ rfl HP.out (O1.out.rd.below (by go_grown)) (HE.out.num.bel (bl_trans hW (by go_grown))) hs hst2).mono ?_; rintro e w2 ⟨rfl, hn2, hg2⟩; have d2 := ((brow.bel (w' := _) (by go_grown)).grow hg2 (by omega)).c1; have d3 := ((bcall.bel (w' := _) (by go_grown)).grow hg2 (by omega)).c1; unfold fnv at d3))
  go_wp2_with fail
  refine bodyPost_ret (results_none rfl _ _ _) rfl ⟨rfl, ?_⟩
  rw [show totg g (abv below 0 head) = g head from totg_one g head]
  exact (HE.out.bel_ hW HE.out.bel.size).num_ hZ1 hZ2 (grown_bel (w := w1) (by go_grown) hg2) hn2
set_option maxRecDepth 100000 in
set_option maxHeartbeats 4000000 in
theorem eachAbove1_any (w0 : World) (below : List Int) (h9 : ∀ x ∈ below, 1 ≤ x ∧ x ≤ 9) (A : Option Addr) (M c : Nat) (hM : M = below.length) (hM5 : M ≤ 5) (hr0 : RdI w0 A below) (Z bn fc : Nat) (hZ1 : w0.heap.size ≤ bn) (hZ2 : bn < Z)
    (g : List Int → Int) (hg : ∀ r, 0 ≤ g r) (top : Int) (htop : top ≤ 4611686018427387904) (hcall : Adds fc bn (fun r => r.length + 1 = M ∧ ∀ x ∈ r, 1 ≤ x ∧ x ≤ 9) g top) : ∀ (f : Nat) (head : List Int) (s : Int) (w : World), M = head.length + f + 1 → (∀ x ∈ head, 1 ≤ x ∧ x ≤ 9) → 0 ≤ s → s + totg g (abv below f head) ≤ top → EA w0.heap.size Z bn fc M c A head s w0 w →
    Calls Try.prog 199 #[.pointer (some ⟨Z + 3, 0, none⟩), .pointer (some ⟨Z, 0, none⟩), .pointer (some ⟨Z + 1, 0, none⟩), .pointer (some ⟨Z + 4, 0, none⟩)] w fun e w' => e = .returned (.tuple #[]) ∧ EA w0.heap.size Z bn fc M c A head (s + totg g (abv below f head)) w0 w' := by
  have HM := Lib.hid hM
  have Hcall := Lib.hid hcall
  have Hg := Lib.hid hg
  have H9 := Lib.hid h9
  have Hr0 := Lib.hid hr0
  clear hM hcall hg h9 hr0
  intro f
  induction f with
  | zero =>
    exact eachAbove1_zero w0 below H9.out A M c HM.out hM5 Hr0.out Z bn fc hZ1 hZ2 g Hg.out top htop Hcall.out
  | succ f ih =>
    intro head s w hl hh hs hst E
    obtain ⟨A', L, c', brow, orow⟩ := E.row
    have hL := orow.len
    have cr := brow.c1
    have cb := E.below.c1
    have e0 : ((L : Int) == (M : Int) - 1) = false := by simp; omega
    obtain ⟨b, off, x, y, rfl, hlt0, hx, hy, _, _, cx0, cy0⟩ := Hr0.out.at2 (j := L) (k := L + 1) (by have := HM.out; omega) (by have := HM.out; omega)
    have cx := (E.bel.cell (p := ⟨b, off + L, none⟩) hlt0).trans cx0
    have hx9 := iAt_rng H9.out (i := L) (by have := HM.out; omega)
    have hy9 := iAt_rng H9.out (i := L + 1) (by have := HM.out; omega)
    have hs' := abvTo_succ below f head
    have hend := abv_succ below f head
    have hmono := fun k n h => totg_le Hg.out below f head (k := k) (n := n) h
    rw [← hL] at hs' hend
    rw [iAt_eq hx] at hx9 hs' hend
    rw [iAt_eq hy] at hy9 hend
    obtain ⟨n, hn⟩ : ∃ n, n = (y + 1 - x).toNat := ⟨_, rfl⟩
    have Hend := Lib.hid (show abv below (f + 1) head = abvTo below f head n by rw [hn]; exact hend)
    have HL := Lib.hid hL
    have Hl := Lib.hid hl
    have Hh := Lib.hid hh
    have HE := Lib.hid E
    have hL5 : L ≤ 5 := by omega
    have hLM : L < M := by omega
    have hLM1 : L + 1 < M := by omega
    have Hs := Lib.hid hs'
    have Hn := Lib.hid hn
    have Hmono := Lib.hid hmono
    have Hst := Lib.hid hst
    have Ih := Lib.hid ih
    have hZN : w0.heap.size ≤ Z := by omega
    clear hL hl hh orow hs' hend hmono hn hx hy hst ih E brow
    go_enter Try.func199, Try.ntmps199
    go_wp2_with fail
    go_loopw [5] (fun q wr => ∃ k : Nat, k ≤ n ∧ q = .int .i64 (x + k) ∧ EA w0.heap.size Z bn fc M c (some ⟨b, off, none⟩) head (s + totg g (abvTo below f head k)) w0 wr) (fun q _ => n - (intOf q - x).toNat)
    case atStart => exact ⟨0, by omega, by simp, by simpa [abvTo, totg] using HE.out⟩
    case round =>
      obtain ⟨k, hk, rfl, E⟩ := hrel
      clear HE cx cr cb
      have cy := (E.bel.cell (p := ⟨b, off + (L + 1), none⟩) hlt0).trans cy0
      obtain ⟨A1, L1, c1, brow, orow⟩ := E.row
      obtain rfl : L = L1 := HL.out.trans orow.len.symm
      have cr := brow.c1
      have cb := E.below.c1
      have hZs : Z + 4 < wr.heap.size := E.rest.lt
      have HE := Lib.hid E
      have Ho := Lib.hid orow
      by_cases hlt : x + k ≤ y
      · have hk9 : k + 1 ≤ n := by have := Hn.out; omega
        clear E orow
        cases hok : okNext head (x + k)
        · have Hok := Lib.hid (show abvTo below f head (k + 1) = abvTo below f head k by rw [Hs.out, hok]; simp)
          by_cases h0 : L = 0
          · exfalso
            have := HL.out
            simp [okNext, ← this, h0] at hok
          · obtain ⟨b', off', z, rfl, _, hz, _, _, cz⟩ := Ho.out.rd.at_ (k := L - 1) (by have := HL.out; omega)
            have hzx : x + k ≤ z := by
              have hN := HL.out
              simp [okNext, ← hN, h0, iAt_eq hz] at hok
              omega
            have hzx2 : ¬ z < x + k := by omega
            clear hok hz
            go_wp2_with fail
            go_roundw
            case rel => exact ⟨k + 1, by omega, by go_num, by rw [Hok.out]; exact HE.out⟩
            case measure => simp [intOf]; omega
        · have Hok := Lib.hid (show abvTo below f head (k + 1) = abvTo below f head k ++ abv below f (head ++ [x + k]) by rw [Hs.out, hok]; simp)
          have htg := Lib.hid (show totg g (abvTo below f head (k + 1)) = totg g (abvTo below f head k) + totg g (abv below f (head ++ [x + k])) by rw [Hok.out, totg_app])
          have htop2 : s + totg g (abvTo below f head k) + totg g (abv below f (head ++ [x + k])) ≤ top := by
            have := Hmono.out (k + 1) n hk9
            have h2 := htg.out
            have h3 := Hst.out
            rw [Hend.out] at h3
            omega
          have htop1 : 0 ≤ s + totg g (abvTo below f head k) := by
            have := totg_nonneg Hg.out (abvTo below f head k)
            omega
          have hhx : ∀ y ∈ head ++ [x + (k : Int)], 1 ≤ y ∧ y ≤ 9 := by
            intro y' hy'
            rcases List.mem_append.1 hy' with h | h
            · exact Hh.out y' h
            · simp at h; subst h; omega
          have hh5 : head.length ≤ 1048576 := by have := HL.out; omega
          have Hhx := Lib.hid hhx
          clear hhx
          by_cases h0 : L = 0
          · have hb0 : ((L : Int) == 0) = true := by simp; omega
            have H0 := Lib.hid h0
            clear hok h0
            go_wp2_with (first
              | (at_builtin; (refine wpList_as1I rfl (.tmp 41) (.tmp 43) rfl (Z + 2) _ head _ rfl rfl Ho.out (by omega) hh5 ⟨by omega, by omega⟩ ?_); intro A2 L2 c2 w2 hL2 o2 b2 g2 s2; go_must (have hp := HE.out.app_ hZ2 hZN brow Ho.out o2 g2; have bz := hp.1; have bzc := bz.c1; have bzf := bz.frozen 0; have E2 := hp.2; have er2 := E2.rest.c1; unfold slf at er2; have HE2 := Lib.hid E2; clear o2 b2 g2 hp E2))
              | (go_at_call 199; refine (Ih.out (head ++ [x + k]) _ _ (by have := HL.out; have := Hl.out; simp; omega) Hhx.out (by omega) (by omega) HE2.out).mono ?_; rintro e w3 ⟨rfl, E3⟩; go_must (obtain ⟨A3, L3, c3, brow3, orow3⟩ := E3.row; have cr3 := brow3.c1; have bzf3 := brow3.frozen 0; have hL3 : L ≤ c3 := (by have q1 := orow3.cap; have q2 := orow3.len; rw [List.length_append, List.length_singleton] at q2; have q3 := HL.out; omega); have E4 := Lib.hid (E3.pop_ hZ2 hZN HL.out brow3 orow3); clear E3 orow3 brow3)))
            go_roundw
            case rel => exact ⟨k + 1, by omega, by go_num, by rw [htg.out, ← Int.add_assoc]; exact E4.out⟩
            case measure => simp [intOf]; omega
          · obtain ⟨b', off', z, rfl, _, hz, _, _, cz⟩ := Ho.out.rd.at_ (k := L - 1) (by have := HL.out; omega)
            have hzx : z < x + k := by
              have hN := HL.out
              simp [okNext, ← hN, h0, iAt_eq hz] at hok
              omega
            have hzx2 : ¬ x + k ≤ z := by omega
            clear hok hz
            go_wp2_with (first
              | (at_builtin; (refine wpList_as1I rfl (.tmp 41) (.tmp 43) rfl (Z + 2) _ head _ rfl rfl Ho.out (by omega) hh5 ⟨by omega, by omega⟩ ?_); intro A2 L2 c2 w2 hL2 o2 b2 g2 s2; go_must (have hp := HE.out.app_ hZ2 hZN brow Ho.out o2 g2; have bz := hp.1; have bzc := bz.c1; have bzf := bz.frozen 0; have E2 := hp.2; have er2 := E2.rest.c1; unfold slf at er2; have HE2 := Lib.hid E2; clear o2 b2 g2 hp E2))
              | (go_at_call 199; refine (Ih.out (head ++ [x + k]) _ _ (by have := HL.out; have := Hl.out; simp; omega) Hhx.out (by omega) (by omega) HE2.out).mono ?_; rintro e w3 ⟨rfl, E3⟩; go_must (obtain ⟨A3, L3, c3, brow3, orow3⟩ := E3.row; have cr3 := brow3.c1; have bzf3 := brow3.frozen 0; have hL3 : L ≤ c3 := (by have q1 := orow3.cap; have q2 := orow3.len; rw [List.length_append, List.length_singleton] at q2; have q3 := HL.out; omega); have E4 := Lib.hid (E3.pop_ hZ2 hZN HL.out brow3 orow3); clear E3 orow3 brow3)))
            go_roundw
            case rel => exact ⟨k + 1, by omega, by go_num, by rw [htg.out, ← Int.add_assoc]; exact E4.out⟩
            case measure => simp [intOf]; omega
      · obtain rfl : k = n := by have := Hn.out; omega
        go_wp2_with fail
        go_end0
        exact ⟨rfl, by rw [Hend.out]; exact HE.out⟩
set_option maxRecDepth 100000 in
set_option maxHeartbeats 1000000 in
theorem eachAbove_any (w0 : World) (below : List Int) (h9 : ∀ x ∈ below, 1 ≤ x ∧ x ≤ 9) (A : Option Addr) (M c : Nat) (hM : M = below.length) (hM5 : M ≤ 5) (hr0 : RdI w0 A below) (bn fc : Nat) (hZ1 : w0.heap.size ≤ bn)
    (g : List Int → Int) (hg : ∀ r, 0 ≤ g r) (top : Int) (htop : top ≤ 4611686018427387904) (hcall : Adds fc bn (fun r => r.length + 1 = M ∧ ∀ x ∈ r, 1 ≤ x ∧ x ≤ 9) g top) (f : Nat) (w : World) (hf : M = f + 1) (hst : totg g (abv below f []) ≤ top) (hb : Below w0.heap.size w0 w) (hn : Blk w bn 3 [.int .i64 0]) :
    Calls Try.prog 151 #[.slice A M c, fnv fc bn] w fun e w' => e = .returned (.tuple #[]) ∧ Below w0.heap.size w0 w' ∧ Blk w' bn 3 [.int .i64 (totg g (abv below f []))] := by
  have hf0 : M = ([] : List Int).length + f + 1 := by simp; omega
  have H := Lib.hid (fun w' => eachAbove1_any w0 below h9 A M c hM hM5 hr0 w.heap.size bn fc hZ1 hn.lt g hg top htop hcall f [] 0 w' hf0 (by simp) (by omega) (by omega))
  have e5 := Blk.new ((((w.alloc (.cells #[.slice A M c] 24)).alloc (.cells #[fnv fc bn] 154)).alloc (.cells #[] 3)).alloc (.cells #[.slice (some ⟨w.heap.size + 1 + 1, 0, none⟩) 0 0] 24)) 1 [slf w.heap.size]
  have e4 := Blk.new (((w.alloc (.cells #[.slice A M c] 24)).alloc (.cells #[fnv fc bn] 154)).alloc (.cells #[] 3)) 24 [.slice (some ⟨w.heap.size + 1 + 1, 0, none⟩) 0 0]
  have e2 := Blk.new2 w (.cells #[.slice A M c] 24) 154 [fnv fc bn]
  have e1 := Blk.new w 24 [.slice A M c]
  have e3 := OwI.new_ (B := w.heap.size + 2) (w := (w.alloc (.cells #[.slice A M c] 24)).alloc (.cells #[fnv fc bn] 154)) (by simp)
  simp only [World.size_alloc] at e5 e4 e3
  have E : EA w0.heap.size w.heap.size bn fc M c A [] 0 w0 (((((w.alloc (.cells #[.slice A M c] 24)).alloc (.cells #[fnv fc bn] 154)).alloc (.cells #[] 3)).alloc (.cells #[.slice (some ⟨w.heap.size + 1 + 1, 0, none⟩) 0 0] 24)).alloc (.cells #[slf w.heap.size] 1)) :=
    ⟨bl_trans hb (by go_grown), ⟨_, _, _, e4.alloc _, (e3.alloc' _).alloc' _⟩, (((e1.alloc _).alloc _).alloc _).alloc _, ((e2.alloc _).alloc _).alloc _, e5, ((((hn.alloc _).alloc _).alloc _).alloc _).alloc _⟩
  have HE := Lib.hid E
  have HM := Lib.hid hM
  have Hf := Lib.hid hf
  have ec := e5.c1
  unfold slf at ec
  clear E e1 e2 e3 e4 e5 hM hf hf0 hr0 hcall h9 hst hg hb
  go_enter Try.func151, Try.ntmps151
  go_wp2_with (go_at_call 199; refine (H.out _ HE.out).mono ?_; rintro e w1 ⟨rfl, E1⟩)
  go_end0
  exact ⟨rfl, E1.bel, by have := E1.num; rwa [Int.zero_add] at this⟩
theorem countUnder1_any (bn : Nat) (P : List Int → Prop) (top : Int) (htop : top ≤ 4611686018427387904) : Adds 152 bn P (fun _ => 1) top := by
  refine ⟨enters_ Try.func152 (by kernel_rfl) rfl, ?_⟩
  intro A N c r s w hN hP hr hn hs hst
  have cn := hn.c1
  have fn := hn.frozen 0
  have Hn := Lib.hid hn
  clear hN hr hn hP
  dsimp only at hst
  go_enter Try.func152, Try.ntmps152
  go_wp2_with fail
  go_end0
  exact ⟨rfl, Hn.out.set_ 0 _, grown_set (grown_refl _ _)⟩
def cntU (row : List Int) : Int := if inB row.length 2 5 && strictB row 1 9 then ((abv row (row.length - 1) []).length : Int) else 0
theorem totg_ones (ll : List (List Int)) : totg (fun _ => 1) ll = ll.length := by
  induction ll with
  | nil => rfl
  | cons r ll ih => simp only [totg, List.map_cons, List.sum_cons, List.length_cons] at *; omega
set_option maxRecDepth 100000 in
set_option maxHeartbeats 1000000 in
theorem CountUnder_i (A : Option Addr) (N c : Nat) (row : List Int) (w : World) (hN : N = row.length) (hl : N ≤ 1048576) (hr : RdI w A row) :
    Calls Try.prog 69 #[.slice A N c] w fun e w' => e = .returned (.int .i64 (cntU row)) ∧ Below w.heap.size w w' := by
  have HN := Lib.hid hN
  have Hr := Lib.hid hr
  have hB := Below.refl w.heap.size w
  cases h1 : inB (N : Int) 2 5
  · have hv := Lib.hid (show cntU row = 0 by rw [cntU, ← hN, h1]; rfl)
    clear hN hr
    go_enter Try.func69, Try.ntmps69
    go_wp2_with (go_at_call 89; refine (within_any _ _ _ _).mono ?_; rintro e wn ⟨rfl, rfl⟩)
    go_ret
    exact ⟨ret_int (by rw [hv.out]), hB⟩
  · cases h2 : strictB row 1 9
    · have hv := Lib.hid (show cntU row = 0 by rw [cntU, h2, Bool.and_false]; rfl)
      have h2' : strictB row 1 9 = false := h2
      clear hr hN
      go_enter Try.func69, Try.ntmps69
      go_wp2_with (first | (go_at_call 89; refine (within_any _ _ _ _).mono ?_; rintro e wn ⟨rfl, rfl⟩) | (go_at_call 147; refine (isStrict_n A N c row 1 9 _ HN.out hl Hr.out).mono ?_; rintro e wn ⟨rfl, hbn⟩; have hSz := bl_sz (bl_trans hB (by go_grown)) hbn; replace hB := bl_trans (bl_trans hB (by go_grown)) hbn; clear hbn))
      go_ret
      exact ⟨ret_int (by rw [hv.out]), hB⟩
    · have i1 := inB_true.1 h1
      have i2 := strictB_iff.1 h2
      obtain ⟨f, hf⟩ : ∃ f, N = f + 1 := ⟨N - 1, by omega⟩
      have hlen := abv_len i2.2 f [] (by simp; omega)
      have hp := pow9 (f := f) (by omega)
      have hv := Lib.hid (show cntU row = ((abv row f []).length : Int) by rw [cntU, ← hN, h1, h2, hf]; rfl)
      have Hf := Lib.hid hf
      have H9 := Lib.hid i2.2
      have Hlen := Lib.hid hlen
      clear hN hr hf i2 hlen
      go_enter Try.func69, Try.ntmps69
      go_wp2_with (first | (go_at_call 89; refine (within_any _ _ _ _).mono ?_; rintro e wn ⟨rfl, rfl⟩) | (go_at_call 147; refine (isStrict_n A N c row 1 9 _ HN.out hl Hr.out).mono ?_; rintro e wn ⟨rfl, hbn⟩; have hSz := bl_sz (bl_trans hB (by go_grown)) hbn; replace hB := bl_trans (bl_trans hB (by go_grown)) hbn; clear hbn) | (go_at_call 151; refine (eachAbove_any w row H9.out A N c HN.out (by omega) Hr.out wn.heap.size 152 hB.size (fun _ => 1) (fun _ => by omega) 4611686018427387904 (Int.le_refl _) (countUnder1_any _ _ _ (Int.le_refl _)) f _ Hf.out (by rw [totg_ones]; have := Hlen.out; omega) (bl_alloc hB _) (Blk.new wn 3 [.int .i64 0])).mono ?_; rintro e w2 ⟨rfl, hb2, hn2⟩; have cn2 := hn2.c1; clear hn2))
      go_ret
      exact ⟨ret_int (by rw [hv.out, totg_ones]), hb2⟩
/-- the number of triangles above a row of f + 1 numbers -/
def cntA : Nat → List Int → Int
  | 0, _ => 1
  | f + 1, row => totg (cntA f) (abv row (f + 1) [])
def bdA : Nat → Nat
  | 0 => 1
  | f + 1 => 9 ^ (f + 1) * bdA f
theorem cntA_nonneg (f : Nat) : ∀ row, 0 ≤ cntA f row := by
  induction f with
  | zero => intro row; exact (by decide : (0 : Int) ≤ 1)
  | succ f ih => intro row; exact totg_nonneg ih _
theorem totg_bd {g : List Int → Int} {ll : List (List Int)} {b : Nat} (h : ∀ r ∈ ll, g r ≤ b) : totg g ll ≤ ((ll.length * b : Nat) : Int) := by
  induction ll with
  | nil => simp [totg]
  | cons r ll ih =>
    have h1 := h r (by simp)
    have h2 := ih (fun y hy => h y (by simp [hy]))
    rw [List.length_cons, Nat.succ_mul]
    simp only [totg, List.map_cons, List.sum_cons] at *
    omega
theorem cntA_le (f : Nat) : ∀ row : List Int, row.length = f + 1 → (∀ x ∈ row, 1 ≤ x ∧ x ≤ 9) → cntA f row ≤ bdA f := by
  induction f with
  | zero => intro row _ _; exact (by decide : (1 : Int) ≤ 1)
  | succ f ih =>
    intro row hl h9
    refine Int.le_trans (totg_bd (b := bdA f) fun r hr => ?_) ?_
    · have := abv_mem h9 (f + 1) [] (by simp; omega) (by simp) r hr
      exact ih r (by omega) this.2
    · have := abv_len h9 (f + 1) [] (by simp; omega)
      rw [bdA]
      exact Int.ofNat_le.2 (Nat.mul_le_mul_right _ this)
theorem bdA_le {f : Nat} (h : f ≤ 4) : bdA f ≤ 3486784401 := by
  have : f = 0 ∨ f = 1 ∨ f = 2 ∨ f = 3 ∨ f = 4 := by omega
  rcases this with rfl | rfl | rfl | rfl | rfl <;> decide
set_option maxRecDepth 100000 in
set_option maxHeartbeats 1000000 in
theorem countAbove1_any (f : Nat) (ih : ∀ (row : List Int) (A : Option Addr) (N c : Nat) (w : World), N = row.length → N = f + 1 → f ≤ 4 → (∀ x ∈ row, 1 ≤ x ∧ x ≤ 9) → RdI w A row →
    Calls Try.prog 149 #[.slice A N c] w fun e w' => e = .returned (.int .i64 (cntA f row)) ∧ Below w.heap.size w w') (hf : f ≤ 4) (bn : Nat) :
    Adds 198 bn (fun r => r.length + 1 = f + 1 + 1 ∧ ∀ x ∈ r, 1 ≤ x ∧ x ≤ 9) (cntA f) 4611686018427387904 := by
  refine ⟨enters_ Try.func198 (by kernel_rfl) rfl, ?_⟩
  intro A N c r s w hN hP hr hn hs hst
  have h0 := cntA_nonneg f r
  have hwr : IntKind.i64.wrap (s + cntA f r) = s + cntA f r := IntWalk.i64_in _ (by omega)
  have cn := hn.c1
  have fn := hn.frozen 0
  have Hn := Lib.hid hn
  have Hr := Lib.hid hr
  have HN := Lib.hid hN
  have HP := Lib.hid hP
  have Ih := Lib.hid ih
  clear hN hr hn hP ih
  go_enter Try.func198, Try.ntmps198
  go_wp2_with fail
  go_region_with ((go_at_call 149; refine (Ih.out r A N c _ HN.out (by have := HP.out.1; have := HN.out; omega) hf HP.out.2 (Hr.out.below (by go_grown))).mono ?_; rintro e w1 ⟨rfl, hb⟩; have n1 := Hn.out.bel (bl_trans (by go_grown) hb); have cn1 := n1.c1; have fn1 := n1.frozen 0; have hw := bl_trans (w := w) (by go_grown) hb))
  all_goals (go_end0; exact ⟨rfl, Blk.set_ (by assumption) 0 _, grown_set (grown_bel (by assumption) (grown_refl _ _))⟩)
set_option maxRecDepth 100000 in
set_option maxHeartbeats 1000000 in
theorem countAbove_any : ∀ (f : Nat) (row : List Int) (A : Option Addr) (N c : Nat) (w : World), N = row.length → N = f + 1 → f ≤ 4 → (∀ x ∈ row, 1 ≤ x ∧ x ≤ 9) → RdI w A row →
    Calls Try.prog 149 #[.slice A N c] w fun e w' => e = .returned (.int .i64 (cntA f row)) ∧ Below w.heap.size w w' := by
  intro f
  induction f with
  | zero =>
    intro row A N c w hN h1 hf h9 hr
    have e0 : ((N : Int) == 1) = true := by simp; omega
    clear hN h1 hr h9
    go_enter Try.func149, Try.ntmps149
    go_wp2_with fail
    go_ret
    exact ⟨rfl, Below.refl _ _⟩
  | succ f ih =>
    intro row A N c w hN h1 hf h9 hr
    have e0 : ((N : Int) == 1) = false := by simp; omega
    have had := Lib.hid (countAbove1_any f ih (by omega) w.heap.size)
    have hle := cntA_le (f + 1) row (by omega) h9
    have hbd := bdA_le (f := f + 1) hf
    have hv := Lib.hid (show totg (cntA f) (abv row (f + 1) []) ≤ 4611686018427387904 by rw [cntA] at hle; omega)
    have HN := Lib.hid hN
    have H1 := Lib.hid h1
    have H9 := Lib.hid h9
    have Hr := Lib.hid hr
    have hn5 : N ≤ 5 := by omega
    have hM := Lib.hid (show (fun r : List Int => r.length + 1 = f + 1 + 1 ∧ ∀ x ∈ r, 1 ≤ x ∧ x ≤ 9) = (fun r => r.length + 1 = N ∧ ∀ x ∈ r, 1 ≤ x ∧ x ≤ 9) by rw [h1])
    clear hN h1 hr h9 hle hbd ih
    go_enter Try.func149, Try.ntmps149
    go_wp2_with (go_at_call 151; refine (eachAbove_any w row H9.out A N c HN.out hn5 Hr.out w.heap.size 198 (Nat.le_refl _) (cntA f) (cntA_nonneg f) 4611686018427387904 (Int.le_refl _) (by rw [← hM.out]; exact had.out) (f + 1) _ H1.out hv.out (bl_alloc (Below.refl _ _) _) (Blk.new w 3 [.int .i64 0])).mono ?_; rintro e w2 ⟨rfl, hb2, hn2⟩; have cn2 := hn2.c1; clear hn2)
    go_ret
    exact ⟨rfl, hb2⟩
def rowTo (k : Nat) : List Int := (List.range k).map fun (i : Nat) => (i : Int) + 1
theorem rowTo_succ (k : Nat) : rowTo (k + 1) = rowTo k ++ [(k : Int) + 1] := by simp [rowTo, List.range_succ]
theorem rowTo_len (k : Nat) : (rowTo k).length = k := by simp [rowTo]
theorem rowTo_mem {k : Nat} {x : Int} (h : x ∈ rowTo k) : 1 ≤ x ∧ x ≤ k := by
  obtain ⟨i, hi, rfl⟩ := List.mem_map.1 h
  have := List.mem_range.1 hi
  omega
def cntT (n : Int) : Int := if inB n 1 5 then cntA (n.toNat - 1) (rowTo n.toNat) else 0
set_option maxRecDepth 100000 in
set_option maxHeartbeats 1000000 in
theorem CountTriangles_i (n : Int) (w : World) :
    Calls Try.prog 66 #[.int .i64 n] w fun e w' => e = .returned (.int .i64 (cntT n)) ∧ Below w.heap.size w w' := by
  cases h1 : inB n 1 5
  · have hv := Lib.hid (show cntT n = 0 by rw [cntT, h1]; rfl)
    go_enter Try.func66, Try.ntmps66
    go_wp2_with (go_at_call 89; refine (within_any _ _ _ _).mono ?_; rintro e wn ⟨rfl, rfl⟩)
    go_ret
    exact ⟨ret_int (by rw [hv.out]), Below.refl _ _⟩
  · have i1 := inB_true.1 h1
    obtain ⟨m, rfl⟩ : ∃ m : Nat, n = m := ⟨n.toNat, by omega⟩
    have hv := Lib.hid (show cntT m = cntA (m - 1) (rowTo m) by rw [cntT, h1, if_pos rfl]; simp)
    have ow := Lib.hid (OwI.new_ (B := w.heap.size) (w := w) (Nat.le_refl _))
    have hB0 := bl_alloc (Below.refl w.heap.size w) (.cells #[] 3)
    go_enter Try.func66, Try.ntmps66
    go_wp2_with (go_at_call 89; refine (within_any _ _ _ _).mono ?_; rintro e wn ⟨rfl, rfl⟩)
    go_loopw [3, 10] (fun v q wr => ∃ k : Nat, k ≤ m ∧ q = .int .i64 k ∧ OwI w.heap.size wr v (rowTo k) ∧ Below w.heap.size w wr) (fun _ q _ => m - (intOf q).toNat)
    case atStart => exact ⟨0, by omega, rfl, ow.out, hB0⟩
    case round =>
      obtain ⟨k, hk, rfl, own, hB⟩ := hrel
      clear ow hB0
      by_cases hlt : k < m
      · have hs := Lib.hid (rowTo_succ k)
        have hlen : (rowTo k).length ≤ 1048576 := by rw [rowTo_len]; omega
        have Ho := Lib.hid own
        have hsz := hB.size
        clear own
        go_wp2_with (at_builtin; refine wpList_as1I rfl (.tmp 13) (.tmp 16) rfl w.heap.size _ _ _ rfl rfl Ho.out hsz hlen ⟨by omega, by omega⟩ ?_; intro A2 L2 c2 w2 hL2 o2 b2 g2 s2; have hB2 := b2 _ hB; have O2 := Lib.hid o2; clear o2 b2 g2)
        go_roundw
        case rel => exact ⟨k + 1, by omega, by go_num, by rw [hs.out]; exact O2.out, hB2⟩
        case measure => simp [intOf]; omega
      · obtain rfl : k = m := by omega
        obtain ⟨⟨A2, c2, rfl⟩, _⟩ := id own
        have Ho := Lib.hid own
        have hk1 : k = k - 1 + 1 := by omega
        have Hk1 := Lib.hid hk1
        clear own hk1
        go_wp2_with (go_at_call 149; refine (countAbove_any (k - 1) (rowTo k) A2 _ c2 _ rfl (by rw [rowTo_len]; exact Hk1.out) (by omega) (fun x hx => by have := rowTo_mem hx; omega) Ho.out.rd).mono ?_; rintro e w2 ⟨rfl, hb2⟩; have hB2 := bl_trans hB hb2; clear hb2)
        go_ret
        exact ⟨ret_int (by rw [hv.out]), hB2⟩
end Go.Proofs.Ytdcjhfmkkcakhaa

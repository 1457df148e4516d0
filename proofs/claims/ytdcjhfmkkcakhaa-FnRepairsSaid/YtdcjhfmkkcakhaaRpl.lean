/-
  Forced dominoes, flips and the plain law of FnRepairs in one text. Printed by gen_rpl.py from the areas LayQ (its first lemmas), ForP, ForS, FlpS, RplP, RplQ.
-/
import Derived.Test.YtdcjhfmkkcakhaaTil
import Derived.Test.YtdcjhfmkkcakhaaTilP
import Derived.Test.YtdcjhfmkkcakhaaFind
import Derived.Test.YtdcjhfmkkcakhaaWith
import Derived.Test.YtdcjhfmkkcakhaaCnt
import Derived.Test.YtdcjhfmkkcakhaaL08
import Derived.Test.YtdcjhfmkkcakhaaUnc
import Derived.Test.YtdcjhfmkkcakhaaSort
import Derived.Test.YtdcjhfmkkcakhaaRepP
import Derived.BigQuiet
namespace Go.Proofs.Ytdcjhfmkkcakhaa
open Go.ChangeShapes Go.WideShapes Go.ChangeAt Go.RowKit Go.Deep
set_option linter.unusedVariables false

def c1D (d : Dm) : Cl := (d.1, d.2.1)
def c2D (d : Dm) : Cl := (sndX d.1 d.2.2, sndY d.2.1 d.2.2)
theorem c12_nbr {d : Dm} (h : okD d = true) : cellOk (c1D d).1 (c1D d).2 = true ∧ cellOk (c2D d).1 (c2D d).2 = true ∧ nbr (c1D d).1 (c1D d).2 (c2D d).1 (c2D d).2 = true := by
  obtain ⟨k1, k2⟩ := domOk_cells h
  refine ⟨k1, k2, ?_⟩
  have r1 := cellOk_iff.1 k1
  show nbr d.1 d.2.1 (sndX d.1 d.2.2) (sndY d.2.1 d.2.2) = true
  unfold nbr
  rw [k1, k2, Bool.true_and, Bool.true_and, decide_eq_true_eq]
  cases d.2.2
  · show (d.1 - wrap64 (d.1 + 1)) * (d.1 - wrap64 (d.1 + 1)) + (d.2.1 - d.2.1) * (d.2.1 - d.2.1) = 1
    rw [IntWalk.wrap64_in _ (by omega), show d.1 - (d.1 + 1) = -1 by omega, show d.2.1 - d.2.1 = 0 by omega]; rfl
  · show (d.1 - d.1) * (d.1 - d.1) + (d.2.1 - wrap64 (d.2.1 + 1)) * (d.2.1 - wrap64 (d.2.1 + 1)) = 1
    rw [IntWalk.wrap64_in _ (by omega), show d.2.1 - (d.2.1 + 1) = -1 by omega, show d.1 - d.1 = 0 by omega]; rfl
theorem ownD_bit (d : Dm) (i : Nat) : (ownD d).testBit i = (decide (idxN (c1D d) = i) || decide (idxN (c2D d) = i)) := by
  unfold ownD setD
  rw [Nat.testBit_or, nthBit_test, nthBit_test]; rfl
structure TilF (s : Nat) (l : List Dm) : Prop where
  ok : ∀ d ∈ l, okD d = true
  sub : ∀ d ∈ l, ∀ i, (ownD d).testBit i = true → s.testBit i = true
  dis : ∀ d ∈ l, ∀ e ∈ l, ∀ i, (ownD d).testBit i = true → (ownD e).testBit i = true → d = e
  nd : l.Nodup
theorem TilF.mono {s : Nat} {l out : List Dm} (h : TilF s l) (hs : ∀ d ∈ out, d ∈ l) (hn : out.Nodup) : TilF s out :=
  ⟨fun d hd => h.ok d (hs d hd), fun d hd => h.sub d (hs d hd), fun d hd e he => h.dis d (hs d hd) e (hs e he), hn⟩
theorem take_fac : ∀ (l : List Dm) (s u : Nat) (p : Option Dm), s < 18446744073709551616 → takeP s p l = some u → TilF s l := by
  intro l
  induction l with
  | nil => intro s u p _ _; exact ⟨by simp, by simp, by simp, List.nodup_nil⟩
  | cons d l ih =>
    intro s u p hs h
    obtain ⟨hd, ho, h⟩ : okD d = true ∧ s &&& ownD d = ownD d ∧ takeP (bdiff s (ownD d)) (some d) l = some u := by
      rw [takeP_cons] at h
      split at h
      · rename_i hc
        simp only [Bool.and_eq_true, beq_iff_eq] at hc
        exact ⟨hc.1.1, hc.1.2, h⟩
      · cases h
    have ih := ih _ _ _ (bdiff_lt hs) h
    have hr : ∀ e ∈ l, ∀ i, (ownD e).testBit i = true → s.testBit i = true ∧ (ownD d).testBit i = false := by
      intro e he i hi
      have := ih.sub e he i hi
      rw [bdiff_bit hs (ownD_lt hd)] at this
      simpa using this
    refine ⟨fun e he => ?_, fun e he i hi => ?_, fun e he f hf i h1 h2 => ?_, List.nodup_cons.2 ⟨fun hm => ?_, ih.nd⟩⟩
    · rcases List.mem_cons.1 he with rfl | he
      · exact hd
      · exact ih.ok e he
    · rcases List.mem_cons.1 he with rfl | he
      · exact sub_bit ho i hi
      · exact (hr e he i hi).1
    · rcases List.mem_cons.1 he with e1 | he2
      · rcases List.mem_cons.1 hf with e2 | hf2
        · rw [e1, e2]
        · rw [e1, (hr f hf2 i h2).2] at h1; cases h1
      · rcases List.mem_cons.1 hf with e2 | hf2
        · rw [e2, (hr e he2 i h1).2] at h2; cases h2
        · exact ih.dis e he2 f hf2 i h1 h2
    · have hb : (ownD d).testBit (idxN (c1D d)) = true := by rw [ownD_bit]; simp
      rw [(hr d hm _ hb).2] at hb; cases hb
theorem take_mk : ∀ (l : List Dm) (s : Nat) (p : Option Dm), s < 18446744073709551616 → TilF s l → l.Pairwise (fun d e => befD d e = true) → (∀ d, l.head? = some d → prB p d = true) → (takeP s p l).isSome = true := by
  intro l
  induction l with
  | nil => intro s p _ _ _ _; rfl
  | cons d l ih =>
    intro s p hs ht hp hb
    have hd := ht.ok d List.mem_cons_self
    have h1 : s &&& ownD d = ownD d := sub_of_bits (ht.sub d List.mem_cons_self)
    have hnd := List.nodup_cons.1 ht.nd
    have hpw := List.pairwise_cons.1 hp
    rw [takeP_cons, hd, h1, hb d rfl, beq_self_eq_true, if_pos (by decide)]
    refine ih _ _ (bdiff_lt hs) ⟨fun e he => ht.ok e (List.mem_cons_of_mem _ he), fun e he i hi => ?_, fun e he f hf => ht.dis e (List.mem_cons_of_mem _ he) f (List.mem_cons_of_mem _ hf), hnd.2⟩ hpw.2 fun e he => hpw.1 e (List.mem_of_mem_head? he)
    rw [bdiff_bit hs (ownD_lt hd), ht.sub e (List.mem_cons_of_mem _ he) i hi, Bool.true_and, Bool.not_eq_true']
    cases hx : (ownD d).testBit i with
    | false => rfl
    | true =>
      have := ht.dis d List.mem_cons_self e (List.mem_cons_of_mem _ he) i hx hi
      subst this
      exact absurd he hnd.1
theorem Sor.pair {out : List Dm} (h : Sor out) : out.Pairwise (fun d e => befD d e = true) := by
  rw [List.pairwise_iff_getElem]
  intro i j hi hj hij
  have e1 : dAt out i = out[i] := by unfold dAt; rw [List.getElem?_eq_getElem hi]; rfl
  have e2 : dAt out j = out[j] := by unfold dAt; rw [List.getElem?_eq_getElem hj]; rfl
  have h1 := h.ok i hi
  have h2 := h.ok j hj
  have h3 := h.lt j hj i hij
  rw [e1] at h1 h3
  rw [e2] at h2 h3
  unfold befD
  rw [h1, h2, decide_eq_true h3]; rfl
theorem Sor.nd {out : List Dm} (h : Sor out) : out.Nodup := by
  refine h.pair.imp fun {a b} hb => ?_
  rintro rfl
  unfold befD at hb
  rw [decide_eq_false (Int.lt_irrefl _)] at hb
  simp at hb
theorem til_fac {rs : List Int} {l : List Dm} (h : isTiling rs l = true) : regOk rs = true ∧ TilF (regSet rs) l ∧ covers l = regSet rs := by
  rw [isTiling_cov, Bool.and_eq_true, beq_iff_eq] at h
  obtain ⟨h1, h2⟩ := h
  unfold isPartial at h1
  rw [Bool.and_eq_true] at h1
  cases ht : takeP (regSet rs) none l with
  | none => rw [ht] at h1; cases h1.2
  | some u => exact ⟨h1.1, take_fac _ _ _ _ (regSet_lt h1.1) ht, h2⟩
theorem sort_part {rs : List Int} {out : List Dm} (hr : regOk rs = true) (h : TilF (regSet rs) out) : isPartial rs (sortD out) = true ∧ (sortD out).length = out.length := by
  have hm : ∀ d, d ∈ sortD out ↔ d ∈ out := fun d => by
    rw [sortD_mem]
    exact ⟨fun h => h.1, fun h1 => ⟨h1, h.ok d h1⟩⟩
  have hn := (sortD_sor out).nd
  refine ⟨?_, Nat.le_antisymm (nodup_subD hn fun d hd => (hm d).1 hd) (nodup_subD h.nd fun d hd => (hm d).2 hd)⟩
  unfold isPartial
  rw [hr, Bool.true_and]
  exact take_mk _ _ _ (regSet_lt hr) (h.mono (fun d hd => (hm d).1 hd) hn) (sortD_sor out).pair fun _ _ => rfl

theorem padR_get (rs : List Int) (j : Nat) : ((padR rs)[j]?).getD 0 = (rs[j]?).getD 0 := by
  unfold padR
  by_cases h : j < rs.length
  · rw [List.getElem?_append_left h]
  · rw [List.getElem?_append_right (by omega), List.getElem?_eq_none (l := rs) (by omega)]
    rcases hx : (List.replicate (8 - rs.length) (0 : Int))[j - rs.length]? with _ | v
    · rfl
    · have := List.eq_of_mem_replicate (List.mem_of_getElem? hx); subst this; rfl
theorem withC_val (rs : List Int) {X Y : Nat} : ((padR rs).set Y ((((((padR rs)[Y]?).getD 0).toNat ||| 2 ^ X : Nat) : Int) - ((2 ^ X : Nat) : Int))) = (padR rs).set Y (((((rs[Y]?).getD 0).toNat ||| 2 ^ X) - 2 ^ X : Nat) : Int) := by
  rw [padR_get]
  congr 1
  have := Nat.right_le_or (n := ((rs[Y]?).getD 0).toNat) (m := 2 ^ X)
  omega
theorem row255 {rs : List Int} (h : regOk rs = true) (j : Nat) : 0 ≤ (rs[j]?).getD 0 ∧ (rs[j]?).getD 0 ≤ 255 := by
  rcases hx : rs[j]? with _ | v
  · exact ⟨by simp, by simp⟩
  · exact (regOk_iff.1 h).2 v (List.mem_of_getElem? hx)
theorem or_sub_bit (n X i : Nat) : ((n ||| 2 ^ X) - 2 ^ X).testBit i = (n.testBit i && !decide (X = i)) := by
  have hb : (n ||| 2 ^ X).testBit X = true := by rw [Nat.testBit_or, Nat.testBit_two_pow_self, Bool.or_true]
  rw [clear_bit hb, Nat.testBit_or, Nat.testBit_two_pow]
  cases n.testBit i <;> by_cases h : X = i <;> simp [h]
theorem withC_ok {rs : List Int} (h : regOk rs = true) {X Y : Nat} (hX : X < 8) (hY : Y < 8) : regOk (withC rs X Y) = true ∧ (withC rs X Y).length = 8 := by
  have hl := padR_len (regOk_iff.1 h).1
  have hle : (withC rs X Y).length = 8 := by unfold withC; rw [List.length_set, hl]
  refine ⟨regOk_iff.2 ⟨by omega, fun v hv => ?_⟩, hle⟩
  unfold withC at hv
  rw [withC_val] at hv
  rcases List.mem_or_eq_of_mem_set hv with hv | hv
  · exact padR_small h v hv
  · have h1 := row255 h Y
    have h2 : ((rs[Y]?).getD 0).toNat ||| 2 ^ X < 2 ^ 8 := Nat.or_lt_two_pow (by omega) (Nat.pow_lt_pow_right (by decide) hX)
    subst hv
    generalize ((rs[Y]?).getD 0).toNat ||| 2 ^ X = p at *
    generalize 2 ^ X = q at *
    omega
theorem withC_has {rs : List Int} (h : regOk rs = true) {X Y : Nat} (hY : Y < 8) (i j : Nat) : regHas (withC rs X Y) i j = (regHas rs i j && !(decide (X = i) && decide (Y = j))) := by
  have hl := padR_len (regOk_iff.1 h).1
  unfold regHas withC
  rw [withC_val, Int.toNat_natCast, Int.toNat_natCast]
  by_cases e : Y = j
  · subst e
    rw [List.getElem?_set_self (by omega), Option.getD_some, Int.toNat_natCast, or_sub_bit]
    simp
  · rw [List.getElem?_set_ne e, padR_get]
    simp [e]
theorem withC_set {rs : List Int} (h : regOk rs = true) {X Y k : Nat} (hX : X < 8) (hY : Y < 8) (hk : k = 8 * Y + X) : regSet (withC rs X Y) = bdiff (regSet rs) (2 ^ k) := by
  have hok := (withC_ok h hX hY).1
  have h1 := regSet_lt h
  have hk64 : k < 64 := by omega
  have h2 : 2 ^ k < 18446744073709551616 := Nat.pow_lt_pow_right (by decide) hk64
  apply Nat.eq_of_testBit_eq
  intro i
  by_cases hi : i < 64
  · rw [bdiff_bit h1 h2, Nat.testBit_two_pow, ← regBit hok (k := i) (X := i % 8) (Y := i / 8) (by omega) (by omega), ← regBit h (k := i) (X := i % 8) (Y := i / 8) (by omega) (by omega), withC_has h hY]
    congr 2
    rw [Bool.eq_iff_iff]
    simp
    omega
  · have e1 : (regSet (withC rs X Y)).testBit i = false := by
      cases e : (regSet (withC rs X Y)).testBit i
      · rfl
      · exact absurd (bit_lt (regSet_lt hok) e) hi
    have e2 : (bdiff (regSet rs) (2 ^ k)).testBit i = false := by
      cases e : (bdiff (regSet rs) (2 ^ k)).testBit i
      · rfl
      · exact absurd (bit_lt (bdiff_lt h1) e) hi
    rw [e1, e2]
/-- the number of tilings that hold a domino, as the reference counts it -/
def withN (rs : List Int) (d : Dm) : Int := covs (tilesL 2) 64 (bdiff (regSet rs) (ownD d))
theorem withC_two {rs : List Int} (h : regOk rs = true) {X Y X2 Y2 : Nat} {z : Bool} (hX : X < 8) (hY : Y < 8) (hX2 : X2 < 8) (hY2 : Y2 < 8) (hx : sndX X z = X2) (hy : sndY Y z = Y2) :
    regOk (withC (withC rs X Y) X2 Y2) = true ∧ cntT (withC (withC rs X Y) X2 Y2) = withN rs ((X : Int), (Y : Int), z) := by
  have h1 := withC_ok h hX hY
  have h2 := withC_ok h1.1 hX2 hY2
  refine ⟨h2.1, ?_⟩
  have e : ownD ((X : Int), (Y : Int), z) = 2 ^ (8 * Y + X) ||| 2 ^ (8 * Y2 + X2) := by
    unfold ownD setD
    dsimp only
    rw [hx, hy]
    unfold nthBit
    rw [show ((Y : Int) * 8 + X).toNat = 8 * Y + X by omega, show ((Y2 : Int) * 8 + X2).toNat = 8 * Y2 + X2 by omega]
  have p1 : 2 ^ (8 * Y + X) < 18446744073709551616 := Nat.pow_lt_pow_right (n := 64) (by decide) (by omega)
  have p2 : 2 ^ (8 * Y2 + X2) < 18446744073709551616 := Nat.pow_lt_pow_right (n := 64) (by decide) (by omega)
  rw [cntT, if_pos h2.1, withC_set h1.1 hX2 hY2 rfl, withC_set h hX hY rfl, withN, e, bdiff_or (regSet_lt h) p1 p2]
def canW (rs : List Int) (d : Dm) : Bool := okD d && regHas rs (sndX d.1 d.2.2) (sndY d.2.1 d.2.2)
def atC (rs : List Int) (c : Cl) (k : Nat) : List Dm := (if 0 < k ∧ canW rs (c.1, c.2, false) = true then [(c.1, c.2, false)] else []) ++ (if 1 < k ∧ canW rs (c.1, c.2, true) = true then [(c.1, c.2, true)] else [])
def allTo (rs : List Int) (j : Nat) : List Dm := ((regCells rs).take j).flatMap fun c => atC rs c 2
def allD (rs : List Int) : List Dm := (regCells rs).flatMap fun c => atC rs c 2
theorem atC_zero (rs : List Int) (c : Cl) : atC rs c 0 = [] := by simp [atC]
theorem atC_yes {rs : List Int} {c : Cl} {k : Nat} {z : Bool} (hk : k < 2) (hz : (k == 1) = z) (h : canW rs (c.1, c.2, z) = true) : atC rs c (k + 1) = atC rs c k ++ [(c.1, c.2, z)] := by
  have : k = 0 ∨ k = 1 := by omega
  rcases this with rfl | rfl
  · obtain rfl : z = false := by rw [← hz]; rfl
    simp [atC, h]
  · obtain rfl : z = true := by rw [← hz]; rfl
    simp [atC, h]
theorem atC_no {rs : List Int} {c : Cl} {k : Nat} {z : Bool} (hk : k < 2) (hz : (k == 1) = z) (h : canW rs (c.1, c.2, z) = false) : atC rs c (k + 1) = atC rs c k := by
  have : k = 0 ∨ k = 1 := by omega
  rcases this with rfl | rfl
  · obtain rfl : z = false := by rw [← hz]; rfl
    simp [atC, h]
  · obtain rfl : z = true := by rw [← hz]; rfl
    simp [atC, h]
theorem atC_len (rs : List Int) (c : Cl) (k : Nat) : (atC rs c k).length ≤ 2 := by
  unfold atC
  rw [List.length_append]
  split <;> split <;> simp
theorem flat_len {α β : Type} (f : α → List β) (h : ∀ c, (f c).length ≤ 2) : ∀ l : List α, (l.flatMap f).length ≤ 2 * l.length
  | [] => by simp
  | a :: l => by
    have := flat_len f h l
    have := h a
    rw [List.flatMap_cons, List.length_append, List.length_cons]; omega
theorem allTo_succ {rs : List Int} {j : Nat} {c : Cl} (h : (regCells rs)[j]? = some c) : allTo rs (j + 1) = allTo rs j ++ atC rs c 2 := by
  unfold allTo
  rw [List.take_add_one, h, List.flatMap_append]
  simp
theorem allTo_len (rs : List Int) (j : Nat) : (allTo rs j).length ≤ 128 := by
  have h1 := flat_len (fun c => atC rs c 2) (fun c => atC_len rs c 2) ((regCells rs).take j)
  have h2 := regCells_len rs
  have h3 := List.length_take_le j (regCells rs)
  unfold allTo
  have h4 : ((regCells rs).take j).length ≤ 64 := by rw [List.length_take]; omega
  omega
theorem allTo_all {rs : List Int} {j : Nat} (h : j = (regCells rs).length) : allTo rs j = allD rs := by unfold allTo allD; rw [h, List.take_length]
theorem allD_len (rs : List Int) : (allD rs).length ≤ 128 := by rw [← allTo_all rfl]; exact allTo_len _ _
theorem mem_allD {rs : List Int} {d : Dm} : d ∈ allD rs ↔ (d.1, d.2.1) ∈ regCells rs ∧ canW rs d = true := by
  obtain ⟨x, y, z⟩ := d
  unfold allD
  rw [List.mem_flatMap]
  constructor
  · rintro ⟨⟨a, b⟩, hc, hm⟩
    unfold atC at hm
    rcases List.mem_append.1 hm with hm | hm
    · split at hm
      · rename_i hh
        rw [List.mem_singleton] at hm
        cases hm
        exact ⟨hc, hh.2⟩
      · cases hm
    · split at hm
      · rename_i hh
        rw [List.mem_singleton] at hm
        cases hm
        exact ⟨hc, hh.2⟩
      · cases hm
  · rintro ⟨hc, hm⟩
    refine ⟨(x, y), hc, ?_⟩
    unfold atC
    rw [List.mem_append]
    cases z
    · left; rw [if_pos ⟨by omega, hm⟩]; exact List.mem_singleton.2 rfl
    · right; rw [if_pos ⟨by omega, hm⟩]; exact List.mem_singleton.2 rfl
def forcedL (rs : List Int) : List Dm := (allD rs).filter fun d => decide (withN rs d = cntT rs)
theorem forced_len (rs : List Int) : (forcedL rs).length ≤ 128 := Nat.le_trans (List.length_filter_le _ _) (allD_len rs)

theorem OwI.rdI {B : Nat} {w : World} {A : Option Addr} {n c : Nat} {l : List Int} (h : OwI B w (.slice A n c) l) : RdI w A l := h.rd
theorem HasCell_y (A : Option Addr) (c : Nat) (l : List Int) (x y : Int) (w : World) (hl : l.length ≤ 1048576) (hr : RdI w A l) (h : (regOk l && cellOk x y && regHas l x y) = true) :
    Calls Try.prog 84 #[.agg #[.slice A l.length c], .agg #[.int .i64 x, .int .i64 y]] w fun e w' => e = .returned (.bool true) ∧ Below w.heap.size w w' :=
  (HasCell_s A c l x y w hl hr).mono fun e w' k => ⟨k.1.trans (by rw [h]), k.2⟩
theorem WithCell_n (A : Option Addr) (n c : Nat) (rs : List Int) (X Y : Nat) (hX : X < 8) (hY : Y < 8) (w : World) (hreg : regOk rs = true) (hn : rs.length = n) (hr : RdI w A rs) :
    Calls Try.prog 39 #[.agg #[.slice A n c], .agg #[.int .i64 X, .int .i64 Y], .bool false] w fun e w' => ∃ B d, e = .returned (.tuple #[.agg #[.slice B 8 d], .bool true]) ∧ OwI w.heap.size w' (.slice B 8 d) (withC rs X Y) ∧ Below w.heap.size w w' := by
  subst hn; exact WithCell_s A c rs X Y hX hY w hreg hr
theorem l07Count_n (A : Option Addr) (n c : Nat) (rs : List Int) (w : World) (hreg : regOk rs = true) (hn : rs.length = n) (hr : RdI w A rs) (v : Int) (hv : cntT rs = v) :
    Calls Try.prog 129 #[.agg #[.slice A n c]] w fun e w' => e = .returned (.int .i64 v) ∧ Below w.heap.size w w' := by
  subst hn; exact l07Count_eq A c rs w hreg hr v hv
set_option maxRecDepth 100000 in
set_option maxHeartbeats 4000000 in
theorem CountWith_n (A : Option Addr) (c : Nat) (rs : List Int) (X Y X2 Y2 : Nat) (z : Bool) (w : World) (hX : X < 8) (hY : Y < 8) (hX2 : X2 < 8) (hY2 : Y2 < 8) (hx : sndX X z = X2) (hy : sndY Y z = Y2) (hreg : regOk rs = true) (h1 : regHas rs X Y = true) (h2 : regHas rs X2 Y2 = true) (hr : RdI w A rs) (v : Int) (hv : withN rs ((X : Int), (Y : Int), z) = v) :
    Calls Try.prog 110 #[.agg #[.slice A rs.length c], .agg #[.int .i64 X, .int .i64 Y, .bool z]] w fun e w' => e = .returned (.int .i64 v) ∧ Below w.heap.size w w' := by
  have hl : rs.length ≤ 1048576 := by have := (regOk_iff.1 hreg).1; omega
  have hr' := Lib.hid hr
  have k1 : cellOk (X : Int) (Y : Int) = true := cellOk_iff.2 ⟨by omega, by omega⟩
  have k2 : cellOk (X2 : Int) (Y2 : Int) = true := cellOk_iff.2 ⟨by omega, by omega⟩
  have HDO := Lib.hid (show domOk (X : Int) (Y : Int) z = true by unfold domOk; rw [hx, hy, k1, k2]; rfl)
  have HC1 := Lib.hid (show (regOk rs && cellOk (X : Int) (Y : Int) && regHas rs (X : Int) (Y : Int)) = true by rw [hreg, k1, h1]; rfl)
  have HC2 := Lib.hid (show (regOk rs && cellOk (X2 : Int) (Y2 : Int) && regHas rs (X2 : Int) (Y2 : Int)) = true by rw [hreg, k2, h2]; rfl)
  have HW1 := Lib.hid (withC_ok hreg hX hY)
  have hw := withC_two hreg hX hY hX2 hY2 hx hy
  have HW2 := Lib.hid (show regOk (withC (withC rs X Y) X2 Y2) = true ∧ (withC (withC rs X Y) X2 Y2).length = 8 ∧ cntT (withC (withC rs X Y) X2 Y2) = v from ⟨hw.1, (withC_ok HW1.out.1 hX2 hY2).2, hw.2.trans hv⟩)
  have H2x := Lib.hid hx
  have H2y := Lib.hid hy
  have P := Lib.hid ((Blk.new w 31 [.slice A rs.length c]).alloc (.cells #[.int .i64 X, .int .i64 Y, .bool z] 53))
  have Q := Lib.hid (Blk.new2 w (.cells #[.slice A rs.length c] 31) 53 [.int .i64 X, .int .i64 Y, .bool z])
  have Pc := P.out.c1
  have Qc := Q.out.c3
  have HB := Lib.hid (bl_alloc (bl_alloc (Below.refl w.heap.size w) (.cells #[.slice A rs.length c] 31)) (.cells #[.int .i64 X, .int .i64 Y, .bool z] 53))
  clear hr hx hy h1 h2 hv k1 k2 hw
  go_enter Try.func110, Try.ntmps110
  go_wp2_with (first | (go_at_call 168; (with_reducible refine (DominoOk_s X Y z _).mono ?_); rintro e w1 ⟨rfl, hb⟩; rw [HDO.out]; have hx := hb; replace P := Lib.hid (P.out.bel hx); replace Pc := P.out.c1; replace Q := Lib.hid (Q.out.bel hx); replace Qc := Q.out.c3; replace HB := Lib.hid (bl_trans HB.out hx); clear hb hx) | (go_at_call 82; (with_reducible refine (CellsUnder_yes X Y z _ HDO.out).mono ?_); rintro e w2 ⟨rfl, hb⟩; rw [H2x.out, H2y.out]; have hx := bl_alloc (bl_alloc (hb) (.cells #[.int .i64 X, .int .i64 Y] 35)) (.cells #[.int .i64 X2, .int .i64 Y2] 35); have S := Lib.hid ((Blk.new w2 35 [.int .i64 X, .int .i64 Y]).alloc (.cells #[.int .i64 X2, .int .i64 Y2] 35)); have Sc := S.out.c2; have U := Lib.hid (Blk.new2 w2 (.cells #[.int .i64 X, .int .i64 Y] 35) 35 [.int .i64 X2, .int .i64 Y2]); have Uc := U.out.c2; replace P := Lib.hid (P.out.bel hx); replace Pc := P.out.c1; replace HB := Lib.hid (bl_trans HB.out hx); clear hb hx) | (go_at_call 84; (with_reducible refine (HasCell_y A c rs X Y _ hl (hr'.out.below HB.out) HC1.out).mono ?_); rintro e w3 ⟨rfl, hb⟩; have hx := hb; replace P := Lib.hid (P.out.bel hx); replace Pc := P.out.c1; replace S := Lib.hid (S.out.bel hx); replace Sc := S.out.c2; replace U := Lib.hid (U.out.bel hx); replace Uc := U.out.c2; replace HB := Lib.hid (bl_trans HB.out hx); clear hb hx) | (go_at_call 84; (with_reducible refine (HasCell_y A c rs X2 Y2 _ hl (hr'.out.below HB.out) HC2.out).mono ?_); rintro e w4 ⟨rfl, hb⟩; have hx := hb; replace P := Lib.hid (P.out.bel hx); replace Pc := P.out.c1; replace S := Lib.hid (S.out.bel hx); replace Sc := S.out.c2; replace U := Lib.hid (U.out.bel hx); replace Uc := U.out.c2; replace HB := Lib.hid (bl_trans HB.out hx); clear hb hx) | (go_at_call 39; (with_reducible refine (WithCell_s A c rs X Y hX hY _ hreg (hr'.out.below HB.out)).mono ?_); rintro e w5 ⟨B5, d5, rfl, o5, hb⟩; have hx := bl_alloc (hb) (.cells #[.slice B5 8 d5] 31); have V := Lib.hid (Blk.new w5 31 [.slice B5 8 d5]); have Vc := V.out.c1; replace U := Lib.hid (U.out.bel hx); replace Uc := U.out.c2; replace HB := Lib.hid (bl_trans HB.out hx); have O5 := Lib.hid (o5.bel (bl_alloc (Below.refl w5.heap.size w5) (.cells #[.slice B5 8 d5] 31))); clear o5; clear hb hx) | (go_at_call 39; (with_reducible refine (WithCell_n B5 8 d5 (withC rs X Y) X2 Y2 hX2 hY2 _ HW1.out.1 HW1.out.2 O5.out.rdI).mono ?_); rintro e w6 ⟨B6, d6, rfl, o6, hb⟩; have hx := bl_alloc (hb) (.cells #[.slice B6 8 d6] 31); have Z := Lib.hid (Blk.new w6 31 [.slice B6 8 d6]); have Zc := Z.out.c1; replace HB := Lib.hid (bl_trans HB.out hx); have O6 := Lib.hid (o6.bel (bl_alloc (Below.refl w6.heap.size w6) (.cells #[.slice B6 8 d6] 31))); clear o6; clear hb hx) | (go_at_call 129; (with_reducible refine (l07Count_n B6 8 d6 (withC (withC rs X Y) X2 Y2) _ HW2.out.1 HW2.out.2.1 O6.out.rdI v HW2.out.2.2).mono ?_); rintro e w7 ⟨rfl, hb⟩; have hx := hb; replace HB := Lib.hid (bl_trans HB.out hx); clear hb hx))
  go_ret
  exact ⟨rfl, HB.out⟩
theorem CountWith_s (A : Option Addr) (c : Nat) (rs : List Int) (x y : Int) (z : Bool) (w : World) (hreg : regOk rs = true) (hm : ((x, y, z) : Dm) ∈ allD rs) (hr : RdI w A rs) (v : Int) (hv : withN rs (x, y, z) = v) :
    Calls Try.prog 110 #[.agg #[.slice A rs.length c], .agg #[.int .i64 x, .int .i64 y, .bool z]] w fun e w' => e = .returned (.int .i64 v) ∧ Below w.heap.size w w' := by
  obtain ⟨m1, m2⟩ := mem_allD.1 hm
  have k1 := regCells_ok m1
  obtain ⟨m3, m4⟩ := Bool.and_eq_true_iff.1 m2
  have k2 : cellOk (sndX x z) (sndY y z) = true := by
    have : domOk x y z = true := m3
    unfold domOk at this
    exact (Bool.and_eq_true_iff.1 this).2
  have hh : regHas rs x y = true := by
    rw [regCells_set hreg, mem_cellsBy] at m1
    have := m1.2
    rw [← HasCell_bit hreg k1] at this
    exact (Bool.and_eq_true_iff.1 this).2
  have c1 := cellOk_iff.1 k1
  have c2 := cellOk_iff.1 k2
  dsimp only at c1 hh m4
  obtain ⟨X, rfl⟩ := Int.eq_ofNat_of_zero_le c1.1.1
  obtain ⟨Y, rfl⟩ := Int.eq_ofNat_of_zero_le c1.2.1
  obtain ⟨X2, hX2⟩ := Int.eq_ofNat_of_zero_le c2.1.1
  obtain ⟨Y2, hY2⟩ := Int.eq_ofNat_of_zero_le c2.2.1
  rw [hX2, hY2] at c2 m4
  exact CountWith_n A c rs X Y X2 Y2 z w (by omega) (by omega) (by omega) (by omega) hX2 hY2 hreg hh m4 hr v hv
theorem OwD.rowt {B : Nat} {w : World} {v : Value} {l : List Dm} (h : OwD B w v l) : ∀ k, v.ownBlock = some k → ∃ cur fr, w.heap[k]? = some (.cells cur 53 fr) := by
  intro k hk
  rcases h.2.1.2 with ⟨e, _⟩ | ⟨g, cap, cur, e, _, hg, _⟩
  · subst e; cases hk
  · subst e
    injection hk with hk
    subst hk
    exact ⟨_, _, hg⟩
theorem OwC.farD {B B2 : Nat} {w w1 : World} {v v2 : Value} {l : List Cl} {l2 : List Dm} (h : OwC B w v l) (k : OwD B2 w v2 l2) (hg : w.grownBy w1 v2.ownBlock) : OwC B w1 v l := ⟨h.1, h.2.1.kept hg (own_apart h.2.1 (by decide) k.rowt), h.2.2⟩
theorem beq_oneN (k : Nat) : ((k : Int) == 1) = (k == 1) := by
  rw [Bool.eq_iff_iff]; simp; omega
set_option maxRecDepth 100000 in
set_option maxHeartbeats 4000000 in
theorem l15All_s (A : Option Addr) (c : Nat) (rs : List Int) (w : World) (hreg : regOk rs = true) (hr : RdI w A rs) :
    Calls Try.prog 109 #[.agg #[.slice A rs.length c]] w fun e w' => ∃ v, e = .returned v ∧ OwD w.heap.size w' v (allD rs) ∧ Below w.heap.size w w' := by
  have hl8 := (regOk_iff.1 hreg).1
  have hl : rs.length ≤ 1048576 := by omega
  have hr' := Lib.hid hr
  have H255 := Lib.hid (regOk_iff.1 hreg).2
  have P := Lib.hid ((Blk.new w 31 [.slice A rs.length c]).alloc (.cells #[] 53))
  have Pc := P.out.c1
  have HB := Lib.hid (bl_alloc (bl_alloc (Below.refl w.heap.size w) (.cells #[.slice A rs.length c] 31)) (.cells #[] 53))
  have HO := Lib.hid (OwD.new_ (B := w.heap.size + 1) (w := w.alloc (.cells #[.slice A rs.length c] 31)) (by rw [World.size_alloc]; omega))
  rw [World.size_alloc] at HO
  clear hr
  go_enter Try.func109, Try.ntmps109
  go_wp2_with (go_at_call 23; (with_reducible refine (CellsOf_s A c rs _ hl (hr'.out.below HB.out)).mono ?_); rintro e w1 ⟨v1, rfl, o1, hb⟩; obtain ⟨⟨A1, c1, rfl⟩, _⟩ := id o1; have hx := hb; replace P := Lib.hid (P.out.bel hx); replace Pc := P.out.c1; replace HO := Lib.hid (HO.out.bel hx); replace HB := Lib.hid (bl_trans HB.out hx); have O1 := Lib.hid o1; have HS1 := Lib.hid hb.size; clear o1; clear hb hx)
  obtain ⟨n, hn⟩ : ∃ n, n = (regCells rs).length := ⟨_, rfl⟩
  have hn64 : n ≤ 64 := by rw [hn]; exact regCells_len rs
  have HN := Lib.hid hn
  rw [← hn] at O1
  have HC := Lib.hid (O1.out.mono (B' := w.heap.size) (by rw [World.size_alloc, World.size_alloc]; omega))
  have hsz1 : w.heap.size + 1 ≤ w1.heap.size := by have := HS1.out; rw [World.size_alloc, World.size_alloc] at this; omega
  rw [← hn]
  clear hn O1 HS1 Pc
  go_loopw [3, 5] (fun v i wr => ∃ j : Nat, j ≤ n ∧ i = .int .i64 j ∧ Hid (OwD (w.heap.size + 1) wr v (allTo rs j)) ∧ Hid (Blk wr w.heap.size 31 [.slice A rs.length c]) ∧ Hid (OwC w.heap.size wr (.slice A1 n c1) (regCells rs)) ∧ w.heap.size + 1 ≤ wr.heap.size ∧ Hid (Below w.heap.size w wr)) (fun _ i _ => n - (intOf i).toNat)
  case atStart => exact ⟨0, by omega, rfl, HO, P, HC, hsz1, HB⟩
  case round =>
    obtain ⟨j, hj, rfl, HOj, HPj, HCj, hszj, HBj⟩ := hrel
    clear HO P HC HB hsz1
    by_cases hlt : j < n
    · obtain ⟨x, y, hxj⟩ : ∃ x y : Int, (regCells rs)[j]? = some (x, y) := ⟨_, _, List.getElem?_eq_getElem (by rw [← HN.out]; exact hlt)⟩
      have HX := Lib.hid hxj
      have hkN : (j : Int) < (n : Int) := by omega
      have Pj := HPj.out.c1
      have HO0 := Lib.hid (show OwD (w.heap.size + 1) wr _ (allTo rs j ++ atC rs (x, y) 0) by rw [atC_zero, List.append_nil]; exact HOj.out)
      clear hxj HOj
      go_wp2_with fail
      go_loopw [3, 6] (fun v i wi => ∃ i' : Nat, i' ≤ 2 ∧ i = .int .i64 i' ∧ Hid (OwD (w.heap.size + 1) wi v (allTo rs j ++ atC rs (x, y) i')) ∧ Hid (Blk wi w.heap.size 31 [.slice A rs.length c]) ∧ Hid (OwC w.heap.size wi (.slice A1 n c1) (regCells rs)) ∧ w.heap.size + 1 ≤ wi.heap.size ∧ Hid (Below w.heap.size w wi)) (fun _ i _ => 2 - (intOf i).toNat)
      case atStart => exact ⟨0, by omega, rfl, HO0, HPj, HCj, hszj, HBj⟩
      case round =>
        obtain ⟨k, hk, rfl, HO, HP, HC, hszk, HB⟩ := hrel
        clear HO0 HPj HCj HBj hszj Pj
        by_cases hk2 : k < 2
        · obtain ⟨b, off, x', y', hA1, hbl, hx, _, gx, gy, hc1, hc2⟩ := HC.out.rd.at_ (k := j) (by rw [← HN.out]; exact hlt)
          rw [HX.out] at hx
          injection hx with hx
          injection hx with hx hy
          subst hx
          subst hy
          subst hA1
          have GXY := Lib.hid (And.intro gx gy)
          obtain ⟨z, hz⟩ : ∃ z, z = (k == 1) := ⟨_, rfl⟩
          have Hz := Lib.hid hz.symm
          have hz' : ((k : Int) == 1) = z := by rw [beq_oneN, hz]
          have hk2' : (k : Int) < 2 := by omega
          have hlen : (allTo rs j ++ atC rs (x, y) k).length ≤ 1048576 := by
            have := allTo_len rs j
            have := atC_len rs (x, y) k
            rw [List.length_append]; omega
          obtain ⟨wo, rfl⟩ : ∃ wo : World, wo = wr := ⟨_, rfl⟩
          clear hz
          go_upto_region 9 with fail
          go_cut [7] from 21 to 33 (fun s10 wx => s10 = .pointer (some ⟨wo.heap.size, 0, none⟩) ∧ Hid (Blk wx wo.heap.size 53 [.int .i64 x, .int .i64 y, .bool z]) ∧ Hid (Below wo.heap.size wo wx))
          case first =>
            go_region
            all_goals (go_wp2_with fail)
            all_goals go_meet
            all_goals exact ⟨rfl, Lib.hid (Blk.new wo _ _).drew, Lib.hid (bl_drew (bl_alloc (Below.refl _ _) _))⟩
          case rest =>
            obtain ⟨rfl, QD, HBx⟩ := hcut
            replace HP := Lib.hid (HP.out.bel HBx.out)
            replace HC := Lib.hid (HC.out.bel HBx.out)
            replace HO := Lib.hid (HO.out.bel HBx.out)
            replace HB := Lib.hid (bl_trans HB.out HBx.out)
            have hszx := Nat.le_trans hszk HBx.out.size
            obtain ⟨D, hD⟩ : ∃ D, D = wo.heap.size := ⟨_, rfl⟩
            rw [← hD] at QD ⊢
            clear hD HBx hc1 hc2 hbl gx gy
            have pc := HP.out.c1
            have dc := QD.out.c3
            have q0 := bq_cell dc.1
            have q1 := bq_cell dc.2.1
            have q2 := bq_cell dc.2.2
            have q3 := bq_cell pc
            have HRr := Lib.hid (hr'.out.below HB.out)
            obtain ⟨sx, hsx⟩ : ∃ sx, sx = sndX x z := ⟨_, rfl⟩
            obtain ⟨sy, hsy⟩ : ∃ sy, sy = sndY y z := ⟨_, rfl⟩
            have HE := Lib.hid (show (Ending.returned (.agg #[.int .i64 (sndX x z), .int .i64 (sndY y z)])) = .returned (.agg #[.int .i64 sx, .int .i64 sy]) by rw [hsx, hsy])
            cases hdo : domOk x y z
            · have HDO := Lib.hid hdo
              have HS := Lib.hid (atC_no (rs := rs) (c := (x, y)) hk2 Hz.out (show (domOk x y z && _) = false by rw [hdo]; rfl))
              clear hdo hsx hsy dc pc
              go_wp2_with fail
              (refine wp_region_quiet_bel (by kernel_rfl) (by kernel_rfl) ?_; (repeat (first | go_big_quiet_step ((go_at_call 168; exact Calls.bel_of ((DominoOk_s x y z _).mono (fun e w' h => ⟨h.1.trans (ret_bool HDO.out), h.2⟩)))) | quiet_step ((go_at_call 168; exact Calls.bel_of ((DominoOk_s x y z _).mono (fun e w' h => ⟨h.1.trans (ret_bool HDO.out), h.2⟩)))))); refine wpQuiet_nil ?_; intro wq hw0; obtain ⟨⟨_, hbq⟩, hw1⟩ := hw0; subst hw1; try dsimp only)
              clear q0 q1 q2 q3
              go_wp2_with fail
              go_roundw
              case rel => exact ⟨k + 1, by omega, by go_num, by rw [HS.out]; exact Lib.hid (HO.out.bel hbq), Lib.hid (HP.out.bel hbq), Lib.hid (HC.out.bel hbq), Nat.le_trans hszx hbq.size, Lib.hid (bl_trans HB.out hbq)⟩
              case measure => simp [intOf]; omega
            · have HDO := Lib.hid hdo
              have hc2 : cellOk sx sy = true := by
                rw [hsx, hsy]; unfold domOk at hdo; exact (Bool.and_eq_true_iff.1 hdo).2
              cases hbit : regHas rs sx sy
              · have HS := Lib.hid (atC_no (rs := rs) (c := (x, y)) hk2 Hz.out (show (domOk x y z && regHas rs (sndX x z) (sndY y z)) = false by rw [hdo, ← hsx, ← hsy, hbit]; rfl))
                have HBIT := Lib.hid hbit
                clear hdo hsx hsy hbit dc pc
                go_wp2_with fail
                (refine wp_region_quiet_bel (by kernel_rfl) (by kernel_rfl) ?_; (repeat (first | go_big_quiet_step (first | (go_at_call 168; exact Calls.bel_of ((DominoOk_s x y z _).mono (fun e w' h => ⟨h.1.trans (ret_bool HDO.out), h.2⟩))) | (go_at_call 169; exact Calls.bel_of ((l05Second_any x y z _).mono (fun e w' h => ⟨h.1.trans HE.out, h.2⟩))) | (go_at_call 101; exact Calls.bel_of ((l03Has_any A c rs sx sy _ hl8 (HRr.out.below (BelowOf.bel _)) hc2 H255.out).mono (fun e w' h => ⟨h.1.trans (ret_bool HBIT.out), h.2⟩)))) | quiet_step (first | (go_at_call 168; exact Calls.bel_of ((DominoOk_s x y z _).mono (fun e w' h => ⟨h.1.trans (ret_bool HDO.out), h.2⟩))) | (go_at_call 169; exact Calls.bel_of ((l05Second_any x y z _).mono (fun e w' h => ⟨h.1.trans HE.out, h.2⟩))) | (go_at_call 101; exact Calls.bel_of ((l03Has_any A c rs sx sy _ hl8 (HRr.out.below (BelowOf.bel _)) hc2 H255.out).mono (fun e w' h => ⟨h.1.trans (ret_bool HBIT.out), h.2⟩)))))); refine wpQuiet_nil ?_; intro wq hw0; obtain ⟨⟨_, hbq⟩, hw1⟩ := hw0; subst hw1; try dsimp only)
                clear q0 q1 q2 q3
                go_wp2_with fail
                go_roundw
                case rel => exact ⟨k + 1, by omega, by go_num, by rw [HS.out]; exact Lib.hid (HO.out.bel hbq), Lib.hid (HP.out.bel hbq), Lib.hid (HC.out.bel hbq), Nat.le_trans hszx hbq.size, Lib.hid (bl_trans HB.out hbq)⟩
                case measure => simp [intOf]; omega
              · have HS := Lib.hid (atC_yes (rs := rs) (c := (x, y)) hk2 Hz.out (show (domOk x y z && regHas rs (sndX x z) (sndY y z)) = true by rw [hdo, ← hsx, ← hsy, hbit]; rfl))
                have HBIT := Lib.hid hbit
                clear hdo hsx hsy hbit dc pc
                go_wp2_with fail
                (refine wp_region_quiet_bel (by kernel_rfl) (by kernel_rfl) ?_; (repeat (first | go_big_quiet_step (first | (go_at_call 168; exact Calls.bel_of ((DominoOk_s x y z _).mono (fun e w' h => ⟨h.1.trans (ret_bool HDO.out), h.2⟩))) | (go_at_call 169; exact Calls.bel_of ((l05Second_any x y z _).mono (fun e w' h => ⟨h.1.trans HE.out, h.2⟩))) | (go_at_call 101; exact Calls.bel_of ((l03Has_any A c rs sx sy _ hl8 (HRr.out.below (BelowOf.bel _)) hc2 H255.out).mono (fun e w' h => ⟨h.1.trans (ret_bool HBIT.out), h.2⟩)))) | quiet_step (first | (go_at_call 168; exact Calls.bel_of ((DominoOk_s x y z _).mono (fun e w' h => ⟨h.1.trans (ret_bool HDO.out), h.2⟩))) | (go_at_call 169; exact Calls.bel_of ((l05Second_any x y z _).mono (fun e w' h => ⟨h.1.trans HE.out, h.2⟩))) | (go_at_call 101; exact Calls.bel_of ((l03Has_any A c rs sx sy _ hl8 (HRr.out.below (BelowOf.bel _)) hc2 H255.out).mono (fun e w' h => ⟨h.1.trans (ret_bool HBIT.out), h.2⟩)))))); refine wpQuiet_nil ?_; intro wq hw0; obtain ⟨⟨_, hbq⟩, hw1⟩ := hw0; subst hw1; try dsimp only)
                clear q0 q1 q2 q3
                replace HP := Lib.hid (HP.out.bel hbq)
                replace HC := Lib.hid (HC.out.bel hbq)
                replace HO := Lib.hid (HO.out.bel hbq)
                replace QD := Lib.hid (QD.out.bel hbq)
                replace HB := Lib.hid (bl_trans HB.out hbq)
                have dc := QD.out.c3
                have hszq := Nat.le_trans hszx hbq.size
                obtain ⟨wy, rfl⟩ : ∃ wy : World, wy = wq := ⟨_, rfl⟩
                clear hbq
                go_wp2_with (at_builtin; refine wpList_atD rfl (.tmp 42) (.tmp 44) rfl (w.heap.size + 1) _ _ x y z rfl rfl HO.out hszq hlen GXY.out.1 GXY.out.2 ?_; intro v' w9 o9 b9 g9 at9 sz9)
                have O9 := Lib.hid (show OwD (w.heap.size + 1) w9 v' (allTo rs j ++ atC rs (x, y) (k + 1)) by rw [HS.out, ← List.append_assoc]; exact o9)
                have P9 := Lib.hid (HP.out.below (b9 _ (Below.refl _ _)) (Nat.lt_succ_self _))
                have C9 := Lib.hid (HC.out.farD HO.out g9)
                have B9 := Lib.hid (HB.out.trans ((b9 _ (Below.refl _ _)).mono (Nat.le_succ _)))
                have S9 : w.heap.size + 1 ≤ w9.heap.size := by omega
                clear o9 b9 g9 at9 sz9
                go_roundw
                case rel => exact ⟨k + 1, by omega, by go_num, O9, P9, C9, S9, B9⟩
                case measure => simp [intOf]; omega
        · obtain rfl : k = 2 := by omega
          have HS := Lib.hid (allTo_succ HX.out)
          go_wp2_with fail
          go_roundw
          case rel => exact ⟨j + 1, by omega, by go_num, by rw [HS.out]; exact HO, HP, HC, hszk, HB⟩
          case measure => simp [intOf]; omega
    · obtain rfl : j = n := by omega
      have e := allTo_all HN.out
      rw [e] at HOj
      go_wp2_with fail
      go_ret
      exact ⟨_, rfl, HOj.out.mono (Nat.le_succ _), HBj.out⟩
theorem OwD.farA {B : Nat} {w w1 : World} {v : Value} {l : List Dm} {row : Option Nat} (h : OwD B w v l) (hg : w.grownBy w1 row) (hd : ∀ k, v.ownBlock = some k → row ≠ some k) : OwD B w1 v l :=
  ⟨h.1, h.2.1.kept hg (by
    cases hv : v.ownBlock with
    | none => exact .inl rfl
    | some k => exact .inr (fun e => hd k hv e.symm)), h.2.2⟩
theorem apart_newD {B : Nat} {w : World} {v u v' : Value} {l : List Dm} (h : v'.ownBlock = v.ownBlock ∨ v'.ownBlock = some (w.heap.size + 1)) (hd : ∀ b, v.ownBlock = some b → u.ownBlock ≠ some b) (hu : OwD B w u l) : ∀ b, v'.ownBlock = some b → u.ownBlock ≠ some b := fun b hb e => by
  rcases h with h | h
  · rw [h] at hb; exact hd b hb e
  · rw [h] at hb
    injection hb with hb
    subst hb
    have := (hu.2.1.lt _ e).2
    omega
set_option maxRecDepth 100000 in
set_option maxHeartbeats 4000000 in
theorem ForcedDominoes_s (A : Option Addr) (c : Nat) (rs : List Int) (w : World) (hreg : regOk rs = true) (hpos : 0 < cntT rs) (hr : RdI w A rs) :
    Calls Try.prog 31 #[.agg #[.slice A rs.length c]] w fun e w' => ∃ v, e = .returned v ∧ OwD w.heap.size w' v (forcedL rs) ∧ Below w.heap.size w w' := by
  have hl8 := (regOk_iff.1 hreg).1
  have hl : rs.length ≤ 1048576 := by omega
  have hr' := Lib.hid hr
  have P := Lib.hid ((Blk.new w 31 [.slice A rs.length c]).alloc (.cells #[] 53))
  have Pc := P.out.c1
  have HB := Lib.hid (bl_alloc (bl_alloc (Below.refl w.heap.size w) (.cells #[.slice A rs.length c] 31)) (.cells #[] 53))
  have HO := Lib.hid (OwD.new_ (B := w.heap.size + 1) (w := w.alloc (.cells #[.slice A rs.length c] 31)) (by rw [World.size_alloc]; omega))
  rw [World.size_alloc] at HO
  obtain ⟨V, hV⟩ : ∃ V, cntT rs = V := ⟨_, rfl⟩
  have hV0 : (V == 0) = false := by
    have : ¬ V = 0 := by omega
    simpa using this
  have HV := Lib.hid hV
  clear hr hpos hV
  go_enter Try.func31, Try.ntmps31
  go_wp2_with (first | (go_at_call 77; (with_reducible refine ((CountTilings_s A c rs _ hl (hr'.out.below HB.out))).mono ?_); rintro e w1 ⟨rfl, hb⟩; rw [HV.out]; have hx := hb; replace P := Lib.hid (P.out.bel hx); replace Pc := P.out.c1; replace HO := Lib.hid (HO.out.bel hx); replace HB := Lib.hid (bl_trans HB.out hx); have HS1 := Lib.hid hb.size; clear hb hx) | (go_at_call 109; (with_reducible refine (l15All_s A c rs _ hreg (hr'.out.below HB.out)).mono ?_); rintro e w2 ⟨v2, rfl, o2, hb⟩; obtain ⟨⟨A1, c1, rfl⟩, _⟩ := id o2; have hx := hb; replace P := Lib.hid (P.out.bel hx); replace Pc := P.out.c1; replace HO := Lib.hid (HO.out.bel hx); replace HB := Lib.hid (bl_trans HB.out hx); have O2 := Lib.hid o2; have HS2 := Lib.hid hb.size; clear o2; clear hb hx))
  have hsz1 : w.heap.size + 2 ≤ w1.heap.size := by have := HS1.out; rw [World.size_alloc, World.size_alloc] at this; omega
  have hsz2 : w.heap.size + 1 ≤ w2.heap.size := by have := HS2.out; omega
  have hN128 := allD_len rs
  obtain ⟨n, hn⟩ : ∃ n, n = (allD rs).length := ⟨_, rfl⟩
  have HN := Lib.hid hn
  rw [← hn] at O2 hN128 ⊢
  have HD0 : Hid (∀ b, (Value.slice (some ⟨w.heap.size + 1, 0, none⟩) 0 0).ownBlock = some b → (Value.slice A1 n c1).ownBlock ≠ some b) := Lib.hid (by
    intro b hb e
    have h1 := (O2.out.2.1.lt b e).1
    simp [Value.ownBlock] at hb
    omega)
  have HL := Lib.hid (O2.out.mono (B' := w.heap.size) (by omega))
  have HM := Lib.hid (show ∀ d ∈ allD rs, d ∈ allD rs from fun d h => h)
  clear hn O2 HS1 HS2 Pc hsz1
  go_loopw [3, 6] (fun v i wr => ∃ j : Nat, j ≤ n ∧ i = .int .i64 j ∧ Hid (OwD (w.heap.size + 1) wr v (((allD rs).take j).filter fun d => decide (withN rs d = V))) ∧ Hid (Blk wr w.heap.size 31 [.slice A rs.length c]) ∧ Hid (OwD w.heap.size wr (.slice A1 n c1) (allD rs)) ∧ Hid (∀ b, v.ownBlock = some b → (Value.slice A1 n c1).ownBlock ≠ some b) ∧ w.heap.size + 1 ≤ wr.heap.size ∧ Hid (Below w.heap.size w wr)) (fun _ i _ => n - (intOf i).toNat)
  case atStart => exact ⟨0, by omega, rfl, by simpa using HO, P, HL, HD0, hsz2, HB⟩
  case round =>
    obtain ⟨j, hj, rfl, HOj, HPj, HLj, HDj, hszj, HBj⟩ := hrel
    clear HO P HL HD0 HB hsz2
    by_cases hlt : j < n
    · obtain ⟨b, off, x, y, z, hA1, hbl, hx, _, gx, gy, c0, c1', c2⟩ := HLj.out.rd.at_ (k := j) (by rw [← HN.out]; exact hlt)
      subst hA1
      have HX := Lib.hid hx
      have HMX := Lib.hid (List.mem_of_getElem? hx)
      have GXY := Lib.hid (And.intro gx gy)
      have C0 := Lib.hid (And.intro c0 (And.intro c1' c2))
      have hkN : (j : Int) < (n : Int) := by omega
      have pc := HPj.out.c1
      have q0 := bq_cell c0
      have q1 := bq_cell c1'
      have q2 := bq_cell c2
      have q3 := bq_cell pc
      have HRr := Lib.hid (hr'.out.below HBj.out)
      have hlen : (((allD rs).take j).filter fun d => decide (withN rs d = V)).length ≤ 1048576 := Nat.le_trans (List.length_filter_le _ _) (by rw [List.length_take]; omega)
      obtain ⟨u, hu⟩ : ∃ u, withN rs (x, y, z) = u := ⟨_, rfl⟩
      have HU := Lib.hid hu
      clear hx gx gy c0 c1' c2 pc
      by_cases huV : u = V
      · have HS := Lib.hid (filter_take_yes (p := fun d => decide (withN rs d = V)) HX.out (by rw [hu]; exact decide_eq_true huV))
        have hb' : (u == V) = true := by simpa using huV
        clear hu huV
        go_wp2_with fail
        (refine wp_region_quiet_bel (by kernel_rfl) (by kernel_rfl) ?_; (repeat (first | go_big_quiet_step ((go_at_call 110; exact Calls.bel_of (CountWith_s A c rs x y z _ hreg HMX.out (HRr.out.below (BelowOf.bel _)) u HU.out))) | quiet_step ((go_at_call 110; exact Calls.bel_of (CountWith_s A c rs x y z _ hreg HMX.out (HRr.out.below (BelowOf.bel _)) u HU.out))))); refine wpQuiet_nil ?_; intro wq hw0; obtain ⟨⟨_, hbq⟩, hw1⟩ := hw0; subst hw1; try dsimp only)
        clear q0 q1 q2 q3
        have d0 := (hbq.cell (p := ⟨b, off + j * 3, none⟩) hbl).trans C0.out.1
        have d1 := (hbq.cell (p := ⟨b, off + j * 3 + 1, none⟩) hbl).trans C0.out.2.1
        have d2 := (hbq.cell (p := ⟨b, off + j * 3 + 2, none⟩) hbl).trans C0.out.2.2
        replace HOj := Lib.hid (HOj.out.bel hbq)
        replace HPj := Lib.hid (HPj.out.bel hbq)
        replace HLj := Lib.hid (HLj.out.bel hbq)
        replace HBj := Lib.hid (bl_trans HBj.out hbq)
        have hszq := Nat.le_trans hszj hbq.size
        obtain ⟨wy, rfl⟩ : ∃ wy : World, wy = wq := ⟨_, rfl⟩
        clear hbq
        go_wp2_with (at_builtin; refine wpList_atD rfl (.tmp 29) (.tmp 34) rfl (w.heap.size + 1) _ _ x y z rfl rfl HOj.out hszq hlen GXY.out.1 GXY.out.2 ?_; intro v' w9 o9 b9 g9 at9 sz9)
        have O9 := Lib.hid o9
        have P9 := Lib.hid (HPj.out.below (b9 _ (Below.refl _ _)) (Nat.lt_succ_self _))
        have L9 := Lib.hid (HLj.out.farA g9 (fun b hb e => HDj.out b e hb))
        have D9 := Lib.hid (apart_newD at9 HDj.out HLj.out)
        have B9 := Lib.hid (HBj.out.trans ((b9 _ (Below.refl _ _)).mono (Nat.le_succ _)))
        have S9 : w.heap.size + 1 ≤ w9.heap.size := by omega
        clear o9 b9 g9 at9 sz9
        go_roundw
        case rel => exact ⟨j + 1, by omega, by go_num, by rw [HS.out]; exact O9, P9, L9, D9, S9, B9⟩
        case measure => simp [intOf]; omega
      · have HS := Lib.hid (filter_take_no (p := fun d => decide (withN rs d = V)) HX.out (by rw [hu]; exact decide_eq_false huV))
        have hb' : (u == V) = false := by simpa using huV
        clear hu huV
        go_wp2_with fail
        (refine wp_region_quiet_bel (by kernel_rfl) (by kernel_rfl) ?_; (repeat (first | go_big_quiet_step ((go_at_call 110; exact Calls.bel_of (CountWith_s A c rs x y z _ hreg HMX.out (HRr.out.below (BelowOf.bel _)) u HU.out))) | quiet_step ((go_at_call 110; exact Calls.bel_of (CountWith_s A c rs x y z _ hreg HMX.out (HRr.out.below (BelowOf.bel _)) u HU.out))))); refine wpQuiet_nil ?_; intro wq hw0; obtain ⟨⟨_, hbq⟩, hw1⟩ := hw0; subst hw1; try dsimp only)
        clear q0 q1 q2 q3
        go_wp2_with fail
        go_roundw
        case rel => exact ⟨j + 1, by omega, by go_num, by rw [HS.out]; exact Lib.hid (HOj.out.bel hbq), Lib.hid (HPj.out.bel hbq), Lib.hid (HLj.out.bel hbq), HDj, Nat.le_trans hszj hbq.size, Lib.hid (bl_trans HBj.out hbq)⟩
        case measure => simp [intOf]; omega
    · obtain rfl : j = n := by omega
      have e : ((allD rs).take j).filter (fun d => decide (withN rs d = V)) = forcedL rs := by rw [HN.out, List.take_length, forcedL, HV.out]
      rw [e] at HOj
      clear e
      go_wp2_with fail
      go_ret
      exact ⟨_, rfl, HOj.out.mono (Nat.le_succ _), HBj.out⟩

theorem res_pairD {fn : Func} {s1 s2 g1 g2 : Nat} (hres : fn.results = #[.cell s1 53, .cell s2 53]) {tmps : Array Value} {w : World} {a b c d e f : Value}
    (h1 : tmps.getD s1 undef = .pointer (some ⟨g1, 0, none⟩)) (h2 : tmps.getD s2 undef = .pointer (some ⟨g2, 0, none⟩)) (B1 : Blk w g1 53 [a, b, c]) (B2 : Blk w g2 53 [d, e, f]) :
    (results fn tmps).run Try.prog w = .ok (.tuple #[.agg #[a, b, c], .agg #[d, e, f]]) w := by
  have c1 := B1.c3
  have c2 := B2.c3
  simp only [Array.getD_eq_getD_getElem?] at h1 h2
  simp [results, hres, h1, h2, go_sem, c1, c2]
/-- the second of the two dominoes that cover four cells -/
def pr2 (x y : Int) (z : Bool) : Dm := if z then (x + 1, y, z) else (x, y + 1, z)
def hasP (list : List Dm) (x y : Int) (z : Bool) : Bool := decide (((x, y, z) : Dm) ∈ list) && decide (pr2 x y z ∈ list)
def kindF (list : List Dm) (x y : Int) (k : Nat) : Nat := if k ≤ 1 ∧ hasP list x y false = true then 1 else if k ≤ 2 ∧ hasP list x y true = true then 2 else 0
def kindD (list : List Dm) (x y : Int) : Nat := if inB x 0 6 = true ∧ inB y 0 6 = true then kindF list x y 1 else 0
theorem kindF_yes {list : List Dm} {x y : Int} {k : Nat} {z : Bool} (hk : 1 ≤ k ∧ k ≤ 2) (hz : (k == 2) = z) (h : hasP list x y z = true) : kindF list x y k = k := by
  have : k = 1 ∨ k = 2 := by omega
  rcases this with rfl | rfl
  · obtain rfl : z = false := by rw [← hz]; rfl
    rw [kindF, if_pos ⟨by omega, h⟩]
  · obtain rfl : z = true := by rw [← hz]; rfl
    rw [kindF, if_neg (by omega), if_pos ⟨by omega, h⟩]
theorem kindF_no {list : List Dm} {x y : Int} {k : Nat} {z : Bool} (hk : 1 ≤ k ∧ k ≤ 2) (hz : (k == 2) = z) (h : hasP list x y z = false) : kindF list x y (k + 1) = kindF list x y k := by
  have : k = 1 ∨ k = 2 := by omega
  rcases this with rfl | rfl
  · obtain rfl : z = false := by rw [← hz]; rfl
    unfold kindF
    rw [h]
    simp
  · obtain rfl : z = true := by rw [← hz]; rfl
    unfold kindF
    rw [h]
    simp
theorem kindF_three (list : List Dm) (x y : Int) : kindF list x y 3 = 0 := by unfold kindF; rw [if_neg (by omega), if_neg (by omega)]
theorem pr2_of {x y x2 y2 : Int} {z : Bool} (h : (z = true ∧ x2 = x + 1 ∧ y2 = y) ∨ (z = false ∧ x2 = x ∧ y2 = y + 1)) : pr2 x y z = (x2, y2, z) := by
  rcases h with ⟨rfl, rfl, rfl⟩ | ⟨rfl, rfl, rfl⟩ <;> simp [pr2]
theorem pr2_ex (x y : Int) (z : Bool) : ∃ x2 y2 : Int, (z = true ∧ x2 = x + 1 ∧ y2 = y) ∨ (z = false ∧ x2 = x ∧ y2 = y + 1) := by
  cases z
  · exact ⟨x, y + 1, .inr ⟨rfl, rfl, rfl⟩⟩
  · exact ⟨x + 1, y, .inl ⟨rfl, rfl, rfl⟩⟩
theorem beq_two (k : Nat) : ((k : Int) == 2) = (k == 2) := by
  rw [Bool.eq_iff_iff]; simp; omega
theorem l11Has_v (A : Option Addr) (N c : Nat) (l : List Dm) (x y : Int) (z : Bool) (w : World) (hN : N = l.length) (hl : N ≤ 1048576) (hr : RdD w A l) (v : Int) (hv : findD l (x, y, z) 0 = v) :
    Calls Try.prog 111 #[.slice A N c, .agg #[.int .i64 x, .int .i64 y, .bool z]] w fun e w' => e = .returned (.int .i64 v) ∧ Below w.heap.size w w' := by
  subst hN; subst hv; exact l11Has_any A c l x y z w hl hr
set_option maxHeartbeats 2000000 in
theorem l11Pair_any (x y x2 y2 : Int) (z : Bool) (w : World) (hx : 0 ≤ x ∧ x ≤ 6) (hy : 0 ≤ y ∧ y ≤ 6) (h : (z = true ∧ x2 = x + 1 ∧ y2 = y) ∨ (z = false ∧ x2 = x ∧ y2 = y + 1)) :
    Calls Try.prog 113 #[.agg #[.int .i64 x, .int .i64 y], .bool z] w fun e w' => e = .returned (.tuple #[.agg #[.int .i64 x, .int .i64 y, .bool z], .agg #[.int .i64 x2, .int .i64 y2, .bool z]]) ∧ Below w.heap.size w w' := by
  have P := ((Blk.new w 35 [.int .i64 x, .int .i64 y]).alloc (.cells #[.int .i64 0, .int .i64 0, .bool false] 53)).alloc (.cells #[.int .i64 0, .int .i64 0, .bool false] 53)
  have Pc := P.c2
  rcases h with ⟨rfl, rfl, rfl⟩ | ⟨rfl, rfl, rfl⟩
  all_goals
    go_enter Try.func113, Try.ntmps113
    go_wp2
    go_region
    go_wp2
    exact bodyPost_ret (res_pairD rfl rfl rfl ((Blk.new2 w _ 53 [_, _, _]).alloc _).drew (Blk.new3 w _ _ 53 [_, _, _]).drew) rfl ⟨rfl, bl_drew (bl_alloc (bl_alloc (bl_alloc (Below.refl _ _) _) _) _)⟩
set_option maxRecDepth 100000 in
set_option maxHeartbeats 4000000 in
theorem l11Kind_any (A : Option Addr) (N c : Nat) (list : List Dm) (x y : Int) (w : World) (hN : N = list.length) (hl : N ≤ 1048576) (hr : RdD w A list) (r : Nat) (hrr : kindD list x y = r) :
    Calls Try.prog 112 #[.slice A N c, .agg #[.int .i64 x, .int .i64 y]] w fun e w' => e = .returned (.int .i64 (r : Int)) ∧ Below w.heap.size w w' := by
  have hr' := Lib.hid hr
  have HN := Lib.hid hN
  have hB := Below.refl w.heap.size w
  have P := Blk.new w 35 [.int .i64 x, .int .i64 y]
  have Pc := P.c2
  by_cases hi : inB x 0 6 = true ∧ inB y 0 6 = true
  · obtain ⟨h1, h2⟩ := hi
    have hx := inB_true.1 h1
    have hy := inB_true.1 h2
    have HF := Lib.hid (show kindF list x y 1 = r by rw [← hrr, kindD, if_pos ⟨h1, h2⟩])
    have HP := Lib.hid P
    have HB := Lib.hid (bl_alloc hB (.cells #[.int .i64 x, .int .i64 y] 35))
    clear hr hN hrr hB P
    go_enter Try.func112, Try.ntmps112
    go_wp2_with (go_at_call 128; refine (l01In_any _ _ _ _).mono ?_; rintro e wn ⟨rfl, rfl⟩)
    go_loopw [5] (fun i wr => ∃ k : Nat, 1 ≤ k ∧ k ≤ 3 ∧ i = .int .i64 k ∧ Hid (kindF list x y k = r) ∧ Hid (Blk wr w.heap.size 35 [.int .i64 x, .int .i64 y]) ∧ Hid (Below w.heap.size w wr)) (fun i _ => 3 - (intOf i).toNat)
    case atStart => exact ⟨1, by omega, by omega, rfl, HF, HP, HB⟩
    case round =>
      obtain ⟨k, hk1, hk3, rfl, HFk, HPk, HBk⟩ := hrel
      clear HF HP HB Pc
      have Pc := HPk.out.c2
      by_cases hlt : k ≤ 2
      · have hkN : (k : Int) ≤ 2 := by omega
        obtain ⟨z, hz⟩ : ∃ z, z = (k == 2) := ⟨_, rfl⟩
        have Hz := Lib.hid hz.symm
        have hz' : ((k : Int) == 2) = z := by rw [beq_two, hz]
        obtain ⟨x2, y2, hxy⟩ := pr2_ex x y z
        have Hxy := Lib.hid hxy
        have Hp2 := Lib.hid (pr2_of hxy)
        obtain ⟨fa, hfa⟩ : ∃ fa, findD list (x, y, z) 0 = fa := ⟨_, rfl⟩
        obtain ⟨fb, hfb⟩ : ∃ fb, findD list (x2, y2, z) 0 = fb := ⟨_, rfl⟩
        have HFA := Lib.hid hfa
        have HFB := Lib.hid hfb
        have hna := findD_neg (x, y, z) list 0 (Int.le_refl _)
        rw [hfa] at hna
        have hnb := findD_neg (x2, y2, z) list 0 (Int.le_refl _)
        rw [hfb] at hnb
        have HNA := Lib.hid hna
        have HNB := Lib.hid hnb
        clear hz hxy hfa hfb hna hnb
        by_cases ha : 0 ≤ fa
        · have da : decide (fa ≥ 0) = true := decide_eq_true ha
          by_cases hb : 0 ≤ fb
          · have db : decide (fb ≥ 0) = true := decide_eq_true hb
            have HR := Lib.hid (show kindF list x y k = k from kindF_yes ⟨hk1, hlt⟩ Hz.out (by
              rw [hasP, Hp2.out, decide_eq_true (Decidable.byContradiction fun h => by have := HNA.out.2 h; omega), decide_eq_true (Decidable.byContradiction fun h => by have := HNB.out.2 h; omega)]; rfl))
            go_wp2_with (first | (go_at_call 113; refine (l11Pair_any x y x2 y2 z _ hx hy Hxy.out).mono ?_; rintro e w3 ⟨rfl, hb3⟩; have T6 := Lib.hid ((Blk.new w3 53 [.int .i64 x, .int .i64 y, .bool z]).alloc (.cells #[.int .i64 x2, .int .i64 y2, .bool z] 53)); have T7 := Lib.hid (Blk.new2 w3 (.cells #[.int .i64 x, .int .i64 y, .bool z] 53) 53 [.int .i64 x2, .int .i64 y2, .bool z]); have hx3 := bl_alloc (bl_alloc hb3 (.cells #[.int .i64 x, .int .i64 y, .bool z] 53)) (.cells #[.int .i64 x2, .int .i64 y2, .bool z] 53); replace HPk := Lib.hid (HPk.out.bel hx3); replace HBk := Lib.hid (bl_trans HBk.out hx3); have t6 := T6.out.c3; have t7 := T7.out.c3; clear hb3 hx3) | (go_at_call 111; (with_reducible refine (l11Has_v A N c list x y z _ HN.out hl (hr'.out.below HBk.out) fa HFA.out).mono ?_); rintro e w4 ⟨rfl, hb4⟩; replace T7 := Lib.hid (T7.out.bel hb4); replace t7 := T7.out.c3; replace HPk := Lib.hid (HPk.out.bel hb4); replace HBk := Lib.hid (bl_trans HBk.out hb4); clear hb4) | (go_at_call 111; (with_reducible refine (l11Has_v A N c list x2 y2 z _ HN.out hl (hr'.out.below HBk.out) fb HFB.out).mono ?_); rintro e w5 ⟨rfl, hb5⟩; replace HPk := Lib.hid (HPk.out.bel hb5); replace HBk := Lib.hid (bl_trans HBk.out hb5); clear hb5))
            go_ret
            exact ⟨ret_int (by rw [← HFk.out, HR.out]), HBk.out⟩
          · have db : decide (fb ≥ 0) = false := decide_eq_false hb
            have HR := Lib.hid (show kindF list x y (k + 1) = kindF list x y k from kindF_no ⟨hk1, hlt⟩ Hz.out (by
              rw [hasP, Hp2.out, decide_eq_false (HNB.out.1 (by omega))]; simp))
            go_wp2_with (first | (go_at_call 113; refine (l11Pair_any x y x2 y2 z _ hx hy Hxy.out).mono ?_; rintro e w3 ⟨rfl, hb3⟩; have T6 := Lib.hid ((Blk.new w3 53 [.int .i64 x, .int .i64 y, .bool z]).alloc (.cells #[.int .i64 x2, .int .i64 y2, .bool z] 53)); have T7 := Lib.hid (Blk.new2 w3 (.cells #[.int .i64 x, .int .i64 y, .bool z] 53) 53 [.int .i64 x2, .int .i64 y2, .bool z]); have hx3 := bl_alloc (bl_alloc hb3 (.cells #[.int .i64 x, .int .i64 y, .bool z] 53)) (.cells #[.int .i64 x2, .int .i64 y2, .bool z] 53); replace HPk := Lib.hid (HPk.out.bel hx3); replace HBk := Lib.hid (bl_trans HBk.out hx3); have t6 := T6.out.c3; have t7 := T7.out.c3; clear hb3 hx3) | (go_at_call 111; (with_reducible refine (l11Has_v A N c list x y z _ HN.out hl (hr'.out.below HBk.out) fa HFA.out).mono ?_); rintro e w4 ⟨rfl, hb4⟩; replace T7 := Lib.hid (T7.out.bel hb4); replace t7 := T7.out.c3; replace HPk := Lib.hid (HPk.out.bel hb4); replace HBk := Lib.hid (bl_trans HBk.out hb4); clear hb4) | (go_at_call 111; (with_reducible refine (l11Has_v A N c list x2 y2 z _ HN.out hl (hr'.out.below HBk.out) fb HFB.out).mono ?_); rintro e w5 ⟨rfl, hb5⟩; replace HPk := Lib.hid (HPk.out.bel hb5); replace HBk := Lib.hid (bl_trans HBk.out hb5); clear hb5))
            go_roundw
            case rel => exact ⟨k + 1, by omega, by omega, by go_num, by rw [HR.out]; exact HFk, HPk, HBk⟩
            case measure => simp [intOf]; omega
        · have da : decide (fa ≥ 0) = false := decide_eq_false ha
          have HR := Lib.hid (show kindF list x y (k + 1) = kindF list x y k from kindF_no ⟨hk1, hlt⟩ Hz.out (by
            rw [hasP, decide_eq_false (HNA.out.1 (by omega))]; simp))
          go_wp2_with (first | (go_at_call 113; refine (l11Pair_any x y x2 y2 z _ hx hy Hxy.out).mono ?_; rintro e w3 ⟨rfl, hb3⟩; have T6 := Lib.hid ((Blk.new w3 53 [.int .i64 x, .int .i64 y, .bool z]).alloc (.cells #[.int .i64 x2, .int .i64 y2, .bool z] 53)); have T7 := Lib.hid (Blk.new2 w3 (.cells #[.int .i64 x, .int .i64 y, .bool z] 53) 53 [.int .i64 x2, .int .i64 y2, .bool z]); have hx3 := bl_alloc (bl_alloc hb3 (.cells #[.int .i64 x, .int .i64 y, .bool z] 53)) (.cells #[.int .i64 x2, .int .i64 y2, .bool z] 53); replace HPk := Lib.hid (HPk.out.bel hx3); replace HBk := Lib.hid (bl_trans HBk.out hx3); have t6 := T6.out.c3; have t7 := T7.out.c3; clear hb3 hx3) | (go_at_call 111; (with_reducible refine (l11Has_v A N c list x y z _ HN.out hl (hr'.out.below HBk.out) fa HFA.out).mono ?_); rintro e w4 ⟨rfl, hb4⟩; replace T7 := Lib.hid (T7.out.bel hb4); replace t7 := T7.out.c3; replace HPk := Lib.hid (HPk.out.bel hb4); replace HBk := Lib.hid (bl_trans HBk.out hb4); clear hb4))
          go_roundw
          case rel => exact ⟨k + 1, by omega, by omega, by go_num, by rw [HR.out]; exact HFk, HPk, HBk⟩
          case measure => simp [intOf]; omega
      · obtain rfl : k = 3 := by omega
        have HR := Lib.hid (show r = 0 by rw [← HFk.out, kindF_three])
        go_wp2_with fail
        go_ret
        exact ⟨ret_int (by rw [HR.out]; rfl), HBk.out⟩
  · have HR := Lib.hid (show r = 0 by rw [← hrr, kindD, if_neg hi])
    clear hr hN hrr
    cases h1 : inB x 0 6
    · clear hi
      go_enter Try.func112, Try.ntmps112
      go_wp2_with (go_at_call 128; refine (l01In_any _ _ _ _).mono ?_; rintro e wn ⟨rfl, rfl⟩)
      go_ret
      exact ⟨ret_int (by rw [HR.out]; rfl), (by first | (go_grown; done) | exact bl_trans hB (by go_grown))⟩
    · cases h2 : inB y 0 6
      · clear hi
        go_enter Try.func112, Try.ntmps112
        go_wp2_with (go_at_call 128; refine (l01In_any _ _ _ _).mono ?_; rintro e wn ⟨rfl, rfl⟩)
        go_ret
        exact ⟨ret_int (by rw [HR.out]; rfl), (by first | (go_grown; done) | exact bl_trans hB (by go_grown))⟩
      · exact absurd ⟨h1, h2⟩ hi
def flipsL (list : List Dm) : List Cl := cellsBy (fun k => decide (0 < kindD list (cellOf k).1 (cellOf k).2)) 64
set_option maxRecDepth 100000 in
set_option maxHeartbeats 4000000 in
theorem FlipsOf_s (A : Option Addr) (N c : Nat) (list : List Dm) (w : World) (hN : N = list.length) (hl : N ≤ 1048576) (hr : RdD w A list) :
    Calls Try.prog 33 #[.slice A N c] w fun e w' => ∃ v, e = .returned v ∧ OwC w.heap.size w' v (flipsL list) ∧ Below w.heap.size w w' := by
  have hr' := Lib.hid hr
  have HN := Lib.hid hN
  have O0 := Lib.hid (OwC.new_ (B := w.heap.size) (w := w) (Nat.le_refl _))
  have B0 := Lib.hid (bl_alloc (Below.refl w.heap.size w) (.cells #[] 35))
  clear hr hN
  go_enter Try.func33, Try.ntmps33
  go_wp2_with fail
  go_loopw [3, 4] (fun v i wr => ∃ k : Nat, k ≤ 64 ∧ i = .int .i64 k ∧ Hid (OwC w.heap.size wr v (cellsBy (fun k => decide (0 < kindD list (cellOf k).1 (cellOf k).2)) k)) ∧ Hid (Below w.heap.size w wr)) (fun _ i _ => 64 - (intOf i).toNat)
  case atStart => exact ⟨0, by omega, rfl, O0, B0⟩
  case round =>
    obtain ⟨k, hk, rfl, HO, HBk⟩ := hrel
    clear O0 B0
    by_cases hlt : k < 64
    · have hs := Lib.hid (cellsBy_succ (fun k => decide (0 < kindD list (cellOf k).1 (cellOf k).2)) k)
      have hlen := cellsBy_len (fun k => decide (0 < kindD list (cellOf k).1 (cellOf k).2)) k
      have hE := cellOf_i64 k hlt
      obtain ⟨q, hq⟩ : ∃ q, kindD list (cellOf k).1 (cellOf k).2 = q := ⟨_, rfl⟩
      have HQ := Lib.hid hq
      have hkN : (k : Int) < 64 := by omega
      by_cases h0 : 0 < q
      · have hs2 := Lib.hid (show cellsBy (fun k => decide (0 < kindD list (cellOf k).1 (cellOf k).2)) (k + 1) = cellsBy (fun k => decide (0 < kindD list (cellOf k).1 (cellOf k).2)) k ++ [((cellOf k).1, (cellOf k).2)] from hs.out.trans (by rw [hq, decide_eq_true h0, if_pos rfl]))
        have d0 : decide ((q : Int) > 0) = true := decide_eq_true (by omega)
        clear hq
        go_wp2_with (first | (go_at_call 100; refine (CellAt_s k _ hlt).mono ?_; rintro e w3 ⟨rfl, hb3⟩; have Q := Lib.hid (Blk.new w3 35 [.int .i64 (cellOf k).1, .int .i64 (cellOf k).2]); have qc := Q.out.c2; have hx3 := bl_alloc hb3 (.cells #[.int .i64 (cellOf k).1, .int .i64 (cellOf k).2] 35); replace HO := Lib.hid (HO.out.bel hx3); replace HBk := Lib.hid (bl_trans HBk.out hx3); clear hb3 hx3) | (go_at_call 112; refine (l11Kind_any A N c list _ _ _ HN.out hl (hr'.out.below HBk.out) q HQ.out).mono ?_; rintro e w4 ⟨rfl, hb4⟩; replace Q := Lib.hid (Q.out.bel hb4); replace qc := Q.out.c2; replace HO := Lib.hid (HO.out.bel hb4); replace HBk := Lib.hid (bl_trans HBk.out hb4); clear hb4) | (at_builtin; refine wpList_appC rfl (.tmp 21) (.tmp 23) rfl w.heap.size _ (cellsBy _ k) (cellOf k).1 (cellOf k).2 rfl rfl HO.out HBk.out.size (by omega) hE.1 hE.2 ?_; intro v' w5 o5 b5 g5))
        have HO5 := Lib.hid o5
        have HB5 := Lib.hid (b5 _ HBk.out)
        clear o5 b5 g5
        go_roundw
        case rel => exact ⟨k + 1, by omega, by go_num, by rw [hs2.out]; exact HO5, HB5⟩
        case measure => simp [intOf]; omega
      · have hs2 := Lib.hid (show cellsBy (fun k => decide (0 < kindD list (cellOf k).1 (cellOf k).2)) (k + 1) = cellsBy (fun k => decide (0 < kindD list (cellOf k).1 (cellOf k).2)) k from hs.out.trans (by rw [hq, decide_eq_false h0, if_neg (by decide), List.append_nil]))
        have d0 : decide ((q : Int) > 0) = false := decide_eq_false (by omega)
        clear hq
        go_wp2_with (first | (go_at_call 100; refine (CellAt_s k _ hlt).mono ?_; rintro e w3 ⟨rfl, hb3⟩; have Q := Lib.hid (Blk.new w3 35 [.int .i64 (cellOf k).1, .int .i64 (cellOf k).2]); have qc := Q.out.c2; have hx3 := bl_alloc hb3 (.cells #[.int .i64 (cellOf k).1, .int .i64 (cellOf k).2] 35); replace HO := Lib.hid (HO.out.bel hx3); replace HBk := Lib.hid (bl_trans HBk.out hx3); clear hb3 hx3) | (go_at_call 112; refine (l11Kind_any A N c list _ _ _ HN.out hl (hr'.out.below HBk.out) q HQ.out).mono ?_; rintro e w4 ⟨rfl, hb4⟩; replace Q := Lib.hid (Q.out.bel hb4); replace qc := Q.out.c2; replace HO := Lib.hid (HO.out.bel hb4); replace HBk := Lib.hid (bl_trans HBk.out hb4); clear hb4))
        go_roundw
        case rel => exact ⟨k + 1, by omega, by go_num, by rw [hs2.out]; exact HO, HBk⟩
        case measure => simp [intOf]; omega
    · obtain rfl : k = 64 := by omega
      go_wp2_with fail
      go_ret
      exact ⟨_, rfl, HO.out, HBk.out⟩
def flipO (list : List Dm) (x y : Int) (z : Bool) : List Dm := [(x, y, !z), pr2 x y (!z)] ++ list.filter fun d => decide (d ≠ (x, y, z)) && decide (d ≠ pr2 x y z)
theorem flipO_len (list : List Dm) (x y : Int) (z : Bool) : (flipO list x y z).length ≤ list.length + 2 := by
  have := List.length_filter_le (fun d => decide (d ≠ (x, y, z)) && decide (d ≠ pr2 x y z)) list
  unfold flipO; rw [List.length_append]; simp only [List.length_cons, List.length_nil]; omega
theorem beq_one {k : Nat} (h : k = 1 ∨ k = 2) : ((k : Int) == 1) = !(k == 2) := by
  rcases h with rfl | rfl <;> rfl
theorem flip_yes {list : List Dm} {j : Nat} {x y : Int} {z : Bool} {d : Dm} (hx : list[j]? = some d) (h1 : d ≠ (x, y, z)) (h2 : d ≠ pr2 x y z) : flipO (list.take (j + 1)) x y z = flipO (list.take j) x y z ++ [d] := by
  unfold flipO
  rw [filter_take_yes hx (by simp [h1, h2]), ← List.append_assoc]
theorem flip_no {list : List Dm} {j : Nat} {x y : Int} {z : Bool} {d : Dm} (hx : list[j]? = some d) (h : d = (x, y, z) ∨ d = pr2 x y z) : flipO (list.take (j + 1)) x y z = flipO (list.take j) x y z := by
  unfold flipO
  rw [filter_take_no hx (by rcases h with h | h <;> simp [h])]
theorem dom_ne {a b x y : Int} {u z : Bool} (h : ((a, b, u) : Dm) ≠ (x, y, z)) : (a == x && b == y && u == z) = false := by rw [dom_beq]; exact decide_eq_false h
theorem dom_e {a b x y : Int} {u z : Bool} (h : ((a, b, u) : Dm) = (x, y, z)) : (a == x && b == y && u == z) = true := by rw [dom_beq]; exact decide_eq_true h
set_option maxRecDepth 100000 in
set_option maxHeartbeats 4000000 in
theorem FlipAt_s (A : Option Addr) (N c : Nat) (list : List Dm) (x y : Int) (w : World) (hN : N = list.length) (hl : N ≤ 1000) (hr : RdD w A list) (k : Nat) (hk : kindD list x y = k) (hk2 : k = 1 ∨ k = 2) (z : Bool) (hz : (k == 2) = z) :
    Calls Try.prog 34 #[.slice A N c, .agg #[.int .i64 x, .int .i64 y]] w fun e w' => ∃ v, e = .returned (.tuple #[v, .bool true]) ∧ OwD w.heap.size w' v (sortD (flipO list x y z)) ∧ Below w.heap.size w w' := by
  have hr' := Lib.hid hr
  have HN := Lib.hid hN
  have HK := Lib.hid hk
  have hl1 : N ≤ 1048576 := by omega
  have hin : inB x 0 6 = true ∧ inB y 0 6 = true := by
    by_cases h : inB x 0 6 = true ∧ inB y 0 6 = true
    · exact h
    · rw [kindD, if_neg h] at hk; omega
  have hx := inB_true.1 hin.1
  have hy := inB_true.1 hin.2
  have HP := Lib.hid (Blk.new w 35 [.int .i64 x, .int .i64 y])
  have Pc := HP.out.c2
  have HB := Lib.hid (bl_alloc (Below.refl w.heap.size w) (.cells #[.int .i64 x, .int .i64 y] 35))
  obtain ⟨zn, hzn⟩ : ∃ zn, zn = !z := ⟨_, rfl⟩
  have hz1 : ((k : Int) == 2) = z := by rw [beq_two, hz]
  have hz2 : ((k : Int) == 1) = zn := by rw [beq_one hk2, hz, hzn]
  have hz3 : ((k : Int) == 0) = false := by
    have : ¬ (k : Int) = 0 := by omega
    simpa using this
  have HZN := Lib.hid hzn
  obtain ⟨x2, y2, hxy⟩ := pr2_ex x y z
  obtain ⟨x3, y3, hxz⟩ := pr2_ex x y zn
  have Hxy := Lib.hid hxy
  have Hxz := Lib.hid hxz
  have Hp2 := Lib.hid (pr2_of hxy)
  have Hp3 := Lib.hid (pr2_of hxz)
  have hx2 : I64 x2 ∧ I64 y2 := by unfold I64; rcases hxy with ⟨_, h1, h2⟩ | ⟨_, h1, h2⟩ <;> omega
  have hx3' : I64 x3 ∧ I64 y3 := by unfold I64; rcases hxz with ⟨_, h1, h2⟩ | ⟨_, h1, h2⟩ <;> omega
  have HX3 := Lib.hid hx3'
  have hxI : I64 x ∧ I64 y := by unfold I64; omega
  have HXI := Lib.hid hxI
  clear hr hN hk hk2 hz hin hzn hxy hxz hx2 hx3' hxI
  go_enter Try.func34, Try.ntmps34
  go_wp2_with (first | (go_at_call 112; refine (l11Kind_any A N c list x y _ HN.out hl1 (hr'.out.below HB.out) k HK.out).mono ?_; rintro e w2 ⟨rfl, hb2⟩; replace HP := Lib.hid (HP.out.bel hb2); have Pc := HP.out.c2; replace HB := Lib.hid (bl_trans HB.out hb2); clear hb2) | (go_at_call 113; (with_reducible refine (l11Pair_any x y x2 y2 z _ hx hy Hxy.out).mono ?_); rintro e w3 ⟨rfl, hb3⟩; have T1a := Lib.hid ((Blk.new w3 53 [.int .i64 x, .int .i64 y, .bool z]).alloc (.cells #[.int .i64 x2, .int .i64 y2, .bool z] 53)); have T1b := Lib.hid (Blk.new2 w3 (.cells #[.int .i64 x, .int .i64 y, .bool z] 53) 53 [.int .i64 x2, .int .i64 y2, .bool z]); have hx3 := bl_alloc (bl_alloc hb3 (.cells #[.int .i64 x, .int .i64 y, .bool z] 53)) (.cells #[.int .i64 x2, .int .i64 y2, .bool z] 53); have sz1 := hb3.size; replace HP := Lib.hid (HP.out.bel hx3); have Pc := HP.out.c2; replace HB := Lib.hid (bl_trans HB.out hx3); have t1a := T1a.out.c3; have t1b := T1b.out.c3; clear hb3 hx3) | (go_at_call 113; (with_reducible refine (l11Pair_any x y x3 y3 zn _ hx hy Hxz.out).mono ?_); rintro e w5 ⟨rfl, hb3⟩; have T2a := Lib.hid ((Blk.new w5 53 [.int .i64 x, .int .i64 y, .bool zn]).alloc (.cells #[.int .i64 x3, .int .i64 y3, .bool zn] 53)); have T2b := Lib.hid (Blk.new2 w5 (.cells #[.int .i64 x, .int .i64 y, .bool zn] 53) 53 [.int .i64 x3, .int .i64 y3, .bool zn]); have hx3 := bl_alloc (bl_alloc hb3 (.cells #[.int .i64 x, .int .i64 y, .bool zn] 53)) (.cells #[.int .i64 x3, .int .i64 y3, .bool zn] 53); have sz2 := hb3.size; replace HP := Lib.hid (HP.out.bel hx3); have Pc := HP.out.c2; replace HB := Lib.hid (bl_trans HB.out hx3); have t2a := T2a.out.c3; have t2b := T2b.out.c3; replace T1a := Lib.hid (T1a.out.bel hx3); replace T1b := Lib.hid (T1b.out.bel hx3); clear hb3 hx3))
  have hBB := HB.out.size
  have O0 : Hid (OwD (w5.heap.size + 2) ((w5.alloc (.cells #[.int .i64 x, .int .i64 y, .bool zn] 53)).alloc (.cells #[.int .i64 x3, .int .i64 y3, .bool zn] 53) |>.alloc (.cells #[.int .i64 x, .int .i64 y, .bool zn, .int .i64 x3, .int .i64 y3, .bool zn] 53)) (.slice (some ⟨w5.heap.size + 1 + 1, 0, none⟩) 2 2) (flipO (list.take 0) x y z)) := Lib.hid (by
    have e : flipO (list.take 0) x y z = [(x, y, zn), (x3, y3, zn)] := by unfold flipO; rw [← HZN.out, Hp3.out]; rfl
    rw [e]
    exact Blk.ownD' (l := [(x, y, zn), (x3, y3, zn)]) (cap := 2) (rest := []) (Blk.new3 w5 _ _ 53 [.int .i64 x, .int .i64 y, .bool zn, .int .i64 x3, .int .i64 y3, .bool zn]) (Nat.le_refl _) (Nat.le_refl 2) (by simp [maxLen]) rfl (by intro d hd; rcases List.mem_cons.1 hd with rfl | hd; exact HXI.out; rcases List.mem_cons.1 hd with rfl | hd; exact HX3.out; cases hd))
  have TA := Lib.hid (T1a.out.alloc (.cells #[.int .i64 x, .int .i64 y, .bool zn, .int .i64 x3, .int .i64 y3, .bool zn] 53))
  have TB := Lib.hid (T1b.out.alloc (.cells #[.int .i64 x, .int .i64 y, .bool zn, .int .i64 x3, .int .i64 y3, .bool zn] 53))
  replace HB := Lib.hid (bl_alloc HB.out (.cells #[.int .i64 x, .int .i64 y, .bool zn, .int .i64 x3, .int .i64 y3, .bool zn] 53))
  have hs0 : w3.heap.size + 2 ≤ w5.heap.size := by have := sz2; rw [World.size_alloc, World.size_alloc] at this; omega
  rw [World.size_alloc, World.size_alloc] at hBB
  obtain ⟨B0, hB0⟩ : ∃ B0, B0 = w5.heap.size + 2 := ⟨_, rfl⟩
  obtain ⟨Da, hDa⟩ : ∃ Da, Da = w3.heap.size := ⟨_, rfl⟩
  obtain ⟨Db, hDb⟩ : ∃ Db, Db = w3.heap.size + 1 := ⟨_, rfl⟩
  have hAB : Da < B0 ∧ Db < B0 ∧ w.heap.size ≤ B0 := by omega
  rw [← hB0] at O0 ⊢
  rw [← hDa] at TA
  rw [← hDb] at TB
  have H0 := Lib.hid (show Value.pointer (some ⟨w3.heap.size, 0, none⟩) = .pointer (some ⟨Da, 0, none⟩) by rw [hDa])
  clear HP Pc t1a t1b t2a t2b T1a T1b T2a T2b sz1 sz2 hs0 hBB
  rw [← hDb, ← hDa]
  have hB1 : B0 ≤ w5.heap.size + 2 := by omega
  clear hB0 hDa hDb H0
  go_loopw [11, 12] (fun v i wr => ∃ j : Nat, j ≤ N ∧ B0 ≤ wr.heap.size ∧ i = .int .i64 j ∧ Hid (OwD B0 wr v (flipO (list.take j) x y z)) ∧ Hid (Blk wr Da 53 [.int .i64 x, .int .i64 y, .bool z]) ∧ Hid (Blk wr Db 53 [.int .i64 x2, .int .i64 y2, .bool z]) ∧ Hid (Below w.heap.size w wr)) (fun _ i _ => N - (intOf i).toNat)
  case atStart => exact ⟨0, by omega, by rw [World.size_alloc, World.size_alloc, World.size_alloc]; omega, rfl, O0, TA, TB, HB⟩
  case round =>
    obtain ⟨j, hj, hBz, rfl, HO, HA, HD, HBj⟩ := hrel
    clear O0 TA TB HB
    have HLe := Lib.hid (flipO_len (list.take j) x y z)
    by_cases hlt : j < N
    · obtain ⟨b, off, p, q, u, rfl, hbl, hxj, _, gp, gq, c0, c1, c2⟩ := (hr'.out.below HBj.out).at_ (k := j) (by rw [← HN.out]; exact hlt)
      have hkN : (j : Int) < (N : Int) := by omega
      have hnd := neq_dom
      have HX := Lib.hid hxj
      have t1 := HA.out.c3
      have t2 := HD.out.c3
      have q0 := bq_cell c0
      have q1 := bq_cell c1
      have q2 := bq_cell c2
      have q3 := bq_cell t1.1
      have q4 := bq_cell t1.2.1
      have q5 := bq_cell t1.2.2
      have q6 := bq_cell t2.1
      have q7 := bq_cell t2.2.1
      have q8 := bq_cell t2.2.2
      have C0 := Lib.hid (And.intro c0 (And.intro c1 c2))
      have GPQ := Lib.hid (And.intro gp gq)
      clear hxj c0 c1 c2 t1 t2
      by_cases e1 : ((p, q, u) : Dm) = (x, y, z)
      · have HS := Lib.hid (flip_no (x := x) (y := y) (z := z) HX.out (.inl e1))
        have be1 := dom_e e1
        clear e1
        go_wp2_with fail
        (refine wp_region_quiet_bel (by kernel_rfl) (by kernel_rfl) ?_; (repeat (first | go_big_quiet_step (fail) | quiet_step (fail))); refine wpQuiet_nil ?_; intro wq hw0; obtain ⟨⟨_, hbq⟩, hw1⟩ := hw0; subst hw1; try dsimp only)
        clear q0 q1 q2 q3 q4 q5 q6 q7 q8
        go_wp2_with fail
        go_roundw
        case rel => exact ⟨j + 1, by omega, Nat.le_trans hBz hbq.size, by go_num, by rw [HS.out]; exact Lib.hid (HO.out.bel hbq), Lib.hid (HA.out.bel hbq), Lib.hid (HD.out.bel hbq), Lib.hid (bl_trans HBj.out hbq)⟩
        case measure => simp [intOf]; omega
      · have be1 := dom_ne e1
        by_cases e2 : ((p, q, u) : Dm) = (x2, y2, z)
        · have HS := Lib.hid (flip_no (x := x) (y := y) (z := z) HX.out (.inr (e2.trans Hp2.out.symm)))
          have be2 := dom_e e2
          clear e1 e2
          go_wp2_with fail
          (refine wp_region_quiet_bel (by kernel_rfl) (by kernel_rfl) ?_; (repeat (first | go_big_quiet_step (fail) | quiet_step (fail))); refine wpQuiet_nil ?_; intro wq hw0; obtain ⟨⟨_, hbq⟩, hw1⟩ := hw0; subst hw1; try dsimp only)
          clear q0 q1 q2 q3 q4 q5 q6 q7 q8
          go_wp2_with fail
          go_roundw
          case rel => exact ⟨j + 1, by omega, Nat.le_trans hBz hbq.size, by go_num, by rw [HS.out]; exact Lib.hid (HO.out.bel hbq), Lib.hid (HA.out.bel hbq), Lib.hid (HD.out.bel hbq), Lib.hid (bl_trans HBj.out hbq)⟩
          case measure => simp [intOf]; omega
        · have HS := Lib.hid (flip_yes HX.out e1 (by rw [Hp2.out]; exact e2))
          have be2 := dom_ne e2
          have hlen : (flipO (list.take j) x y z).length ≤ 1048576 := by have := HLe.out; rw [List.length_take] at this; omega
          clear e1 e2
          go_wp2_with fail
          (refine wp_region_quiet_bel (by kernel_rfl) (by kernel_rfl) ?_; (repeat (first | go_big_quiet_step (fail) | quiet_step (fail))); refine wpQuiet_nil ?_; intro wq hw0; obtain ⟨⟨_, hbq⟩, hw1⟩ := hw0; subst hw1; try dsimp only)
          clear q0 q1 q2 q3 q4 q5 q6 q7 q8
          have d0 := (hbq.cell (p := ⟨b, off + j * 3, none⟩) hbl).trans C0.out.1
          have d1 := (hbq.cell (p := ⟨b, off + j * 3 + 1, none⟩) hbl).trans C0.out.2.1
          have d2 := (hbq.cell (p := ⟨b, off + j * 3 + 2, none⟩) hbl).trans C0.out.2.2
          replace HO := Lib.hid (HO.out.bel hbq)
          replace HA := Lib.hid (HA.out.bel hbq)
          replace HD := Lib.hid (HD.out.bel hbq)
          replace HBj := Lib.hid (bl_trans HBj.out hbq)
          have hsz : B0 ≤ wq.heap.size := Nat.le_trans hBz hbq.size
          obtain ⟨wy, rfl⟩ : ∃ wy : World, wy = wq := ⟨_, rfl⟩
          clear hbq
          go_wp2_with (at_builtin; refine wpList_atD rfl (.tmp 58) (.tmp 63) rfl B0 _ _ p q u rfl rfl HO.out hsz hlen GPQ.out.1 GPQ.out.2 ?_; intro v' w9 o9 b9 g9 at9 sz9)
          have O9 := Lib.hid o9
          have A9 := Lib.hid (HA.out.below (b9 _ (Below.refl _ _)) hAB.1)
          have D9 := Lib.hid (HD.out.below (b9 _ (Below.refl _ _)) hAB.2.1)
          have B9 := Lib.hid (HBj.out.trans ((b9 _ (Below.refl _ _)).mono hAB.2.2))
          clear o9 b9 g9 at9
          go_roundw
          case rel => exact ⟨j + 1, by omega, by omega, by go_num, by rw [HS.out]; exact O9, A9, D9, B9⟩
          case measure => simp [intOf]; omega
    · obtain rfl : j = N := by omega
      have e : flipO (list.take j) x y z = flipO list x y z := by rw [HN.out, List.take_length]
      rw [e] at HO HLe
      obtain ⟨⟨Ao, co, rfl⟩, _⟩ := id HO.out
      obtain ⟨L, hL⟩ : ∃ L, L = (flipO list x y z).length := ⟨_, rfl⟩
      rw [← hL] at HO ⊢
      have HL := Lib.hid hL
      have hL2 : L ≤ 1048576 := by have := HLe.out; rw [List.length_take] at this; omega
      clear hL e
      go_wp2_with (go_at_call 114; refine (SortDominoes_s Ao L co (flipO list x y z) _ HL.out hL2 HO.out.rd).mono ?_; rintro e w6 ⟨v6, rfl, o6, hb6⟩; have O6 := Lib.hid o6; have B6 := Lib.hid (bl_trans HBj.out hb6); clear o6 hb6)
      go_ret2
      exact ⟨_, rfl, O6.out.mono HBj.out.size, B6.out⟩

/-! ### the number of tilings that hold a domino -/
theorem fit_card {f s : Nat} {d : Dm} (hs : s < 18446744073709551616) (h : fitD s d = true) (hc : card s ≤ f + 1) : card (bdiff s (ownD d)) ≤ f := by
  obtain ⟨h1, h2⟩ := own_low h
  refine sub_card hs (ownD_lt h1) h2 (fun e => ?_) hc
  have := (own_min h1).2.1
  rw [e] at this; simp at this
theorem tils_fuel : ∀ (f s : Nat), s < 18446744073709551616 → card s ≤ f → tils (f + 1) s = tils f s := by
  intro f
  induction f with
  | zero =>
    intro s hs hc
    have h0 : s = 0 := (card_zero hs).1 (by omega)
    subst h0
    rw [tils_zero, tils_zero]
  | succ f ih =>
    intro s hs hc
    by_cases h0 : s = 0
    · subst h0; rw [tils_zero, tils_zero]
    · have hz : ∀ z, tilD (f + 1) s z = tilD f s z := fun z => by
        unfold tilD
        split
        · rename_i h
          rw [ih _ (bdiff_lt hs) (fit_card hs h hc)]
        · rfl
      rw [tils_succ (f + 1) h0, tils_succ f h0, hz, hz]
theorem tils_fac {f s : Nat} (hs : s < 18446744073709551616) {t : List Dm} (h : t ∈ tils f s) : TilF s t :=
  take_fac t s 0 none hs (tils_take f s none t hs (fun e he => by cases he) h)
def cntM (d : Dm) (L : List (List Dm)) : Nat := (L.filter fun t => decide (d ∈ t)).length
theorem cntM_app (d : Dm) (a b : List (List Dm)) : cntM d (a ++ b) = cntM d a + cntM d b := by unfold cntM; rw [List.filter_append, List.length_append]
theorem cntM_none {d : Dm} {L : List (List Dm)} (h : ∀ t ∈ L, d ∉ t) : cntM d L = 0 := by
  unfold cntM
  rw [List.filter_eq_nil_iff.2 (fun t ht => by simpa using h t ht)]; rfl
theorem cntM_all {d : Dm} {L : List (List Dm)} (h : ∀ t ∈ L, d ∈ t) : cntM d L = L.length := by
  unfold cntM
  rw [List.filter_eq_self.2 (fun t ht => by simpa using h t ht)]
theorem cntM_cons {d e : Dm} (hne : d ≠ e) (L : List (List Dm)) : cntM d (L.map (e :: ·)) = cntM d L := by
  unfold cntM
  rw [List.filter_map, List.length_map]
  congr 1
  apply List.filter_congr
  intro t _
  simp [hne]
theorem ownD_self {d : Dm} (h : okD d = true) : (ownD d).testBit (idxN (d.1, d.2.1)) = true := (own_min h).2.1
theorem withN_cnt : ∀ (f s : Nat) (d : Dm), s < 18446744073709551616 → card s ≤ f → okD d = true → (∀ i, (ownD d).testBit i = true → s.testBit i = true) → (tils f (bdiff s (ownD d))).length = cntM d (tils f s) := by
  intro f
  induction f with
  | zero =>
    intro s d hs hc hd hb
    have h0 : s = 0 := (card_zero hs).1 (by omega)
    subst h0
    have := hb _ (ownD_self hd)
    simp at this
  | succ f ih =>
    intro s d hs hc hd hb
    have h0 : s ≠ 0 := by
      intro e
      subst e
      have := hb _ (ownD_self hd)
      simp at this
    obtain ⟨l1, l2, l3⟩ := lowb_spec hs h0
    have hdl := ownD_lt hd
    have hdB : ∀ i, (bdiff s (ownD d)).testBit i = (s.testBit i && !(ownD d).testBit i) := bdiff_bit hs hdl
    have hfd : fitD s d = true := by unfold fitD; rw [hd, sub_of_bits hb]; simp
    rw [tils_succ f h0, cntM_app]
    by_cases hA : (ownD d).testBit (lowb s) = true
    · have hm := own_min hd
      have hq : idxN (d.1, d.2.1) = lowb s := by
        have h1 := hm.2.2.1 _ hA
        rcases Nat.lt_or_ge (idxN (d.1, d.2.1)) (lowb s) with h | h
        · have := l3 _ h
          rw [hb _ hm.2.1] at this; cases this
        · omega
      have hde := dm_of hd
      rw [hq] at hde
      have same : cntM d (tilD f s d.2.2) = (tils f (bdiff s (ownD d))).length := by
        unfold tilD
        rw [← hde, if_pos hfd, cntM_all, List.length_map]
        intro t ht
        obtain ⟨t', _, rfl⟩ := List.mem_map.1 ht
        exact List.mem_cons_self
      have oth : cntM d (tilD f s (!d.2.2)) = 0 := by
        apply cntM_none
        intro t ht
        obtain ⟨he, t', ht', rfl⟩ := tilD_mem.1 ht
        intro hm2
        rcases List.mem_cons.1 hm2 with e | hm2
        · have := congrArg (fun q : Dm => q.2.2) e
          unfold dmAt at this
          dsimp only at this
          cases hz : d.2.2 <;> rw [hz] at this <;> cases this
        · have hok := (own_low he).1
          have := (tils_fac (bdiff_lt hs) ht').sub d hm2 _ hA
          rw [bdiff_bit hs (ownD_lt hok), dmAt_bit l1 hok] at this
          simp at this
      rw [tils_fuel f _ (bdiff_lt hs) (fit_card hs hfd hc)]
      cases hz : d.2.2
      · rw [hz] at same oth; rw [same]; simp only [Bool.not_false] at oth; rw [oth, Nat.add_zero]
      · rw [hz] at same oth; rw [same]; simp only [Bool.not_true] at oth; rw [oth, Nat.zero_add]
    · have hA' : (ownD d).testBit (lowb s) = false := by simpa using hA
      have l2' : (bdiff s (ownD d)).testBit (lowb s) = true := by rw [hdB, l2, hA']; rfl
      have h0' : bdiff s (ownD d) ≠ 0 := by intro e; rw [e] at l2'; simp at l2'
      have hlow : lowb (bdiff s (ownD d)) = lowb s := lowb_eq l1 l2' (fun j hj => by rw [hdB, l3 j hj]; rfl)
      have key : ∀ z, (tilD f (bdiff s (ownD d)) z).length = cntM d (tilD f s z) := by
        intro z
        obtain ⟨e, he⟩ : ∃ e, e = dmAt (lowb s) z := ⟨_, rfl⟩
        have hun1 : tilD f (bdiff s (ownD d)) z = if fitD (bdiff s (ownD d)) e then (tils f (bdiff (bdiff s (ownD d)) (ownD e))).map (e :: ·) else [] := by unfold tilD; rw [hlow, ← he]
        have hun2 : tilD f s z = if fitD s e then (tils f (bdiff s (ownD e))).map (e :: ·) else [] := by unfold tilD; rw [← he]
        rw [hun1, hun2]
        by_cases hf : fitD s e = true
        · obtain ⟨hok, hsub⟩ := own_low hf
          have heb : (ownD e).testBit (lowb s) = true := by rw [he]; exact dmAt_bit l1 (by rw [← he]; exact hok)
          have hne : d ≠ e := by intro h; rw [← h, hA'] at heb; cases heb
          have hel := ownD_lt hok
          rw [if_pos hf]
          by_cases hov : ∃ i, (ownD e).testBit i = true ∧ (ownD d).testBit i = true
          · obtain ⟨i, i1, i2⟩ := hov
            have hnf : ¬ fitD (bdiff s (ownD d)) e = true := by
              intro h
              have := sub_bit (own_low h).2 i i1
              rw [hdB, i2] at this
              simp at this
            rw [if_neg hnf]
            symm
            apply cntM_none
            intro t ht
            obtain ⟨t', ht', rfl⟩ := List.mem_map.1 ht
            intro hm2
            rcases List.mem_cons.1 hm2 with h | hm2
            · exact hne h
            · have := (tils_fac (bdiff_lt hs) ht').sub d hm2 _ i2
              rw [bdiff_bit hs hel, i1] at this
              simp at this
          · have hdis : ∀ i, (ownD e).testBit i = true → (ownD d).testBit i = false := fun i hi => by
              cases hx : (ownD d).testBit i
              · rfl
              · exact absurd ⟨i, hi, hx⟩ hov
            have hfit : fitD (bdiff s (ownD d)) e = true := by
              unfold fitD
              rw [hok, sub_of_bits (fun i hi => by rw [hdB, sub_bit hsub i hi, hdis i hi]; rfl)]
              simp
            have hcomm : bdiff (bdiff s (ownD d)) (ownD e) = bdiff (bdiff s (ownD e)) (ownD d) := by
              rw [← bdiff_or hs hdl hel, ← bdiff_or hs hel hdl, Nat.or_comm]
            rw [if_pos hfit, List.length_map, hcomm, cntM_cons hne]
            refine ih _ d (bdiff_lt hs) (fit_card hs hf hc) hd (fun i hi => ?_)
            rw [bdiff_bit hs hel, hb i hi, Bool.true_and, Bool.not_eq_true']
            cases hx : (ownD e).testBit i
            · rfl
            · have := hdis i hx; rw [hi] at this; cases this
        · have hnf : ¬ fitD (bdiff s (ownD d)) e = true := by
            intro h
            apply hf
            obtain ⟨h1, h2⟩ := own_low h
            unfold fitD
            rw [h1, sub_of_bits (fun i hi => by have := sub_bit h2 i hi; rw [hdB, Bool.and_eq_true] at this; exact this.1)]
            simp
          rw [if_neg hf, if_neg hnf]; rfl
      rw [tils_succ f h0', List.length_append, key, key]
/-- as many tilings hold a domino as there are tilings: each does -/
theorem withN_iff {rs : List Int} (h : regOk rs = true) {d : Dm} (hd : okD d = true) (hb : ∀ i, (ownD d).testBit i = true → (regSet rs).testBit i = true) : withN rs d = cntT rs ↔ ∀ t ∈ tils 64 (regSet rs), d ∈ t := by
  have hs := regSet_lt h
  have h1 := tils_len 64 (bdiff (regSet rs) (ownD d)) (bdiff_lt hs)
  have h2 := tils_len 64 (regSet rs) hs
  rw [withN, cntT, if_pos h, ← h1, ← h2, withN_cnt 64 _ d hs (card_le _) hd hb]
  constructor
  · intro e t ht
    have e2 : cntM d (tils 64 (regSet rs)) = (tils 64 (regSet rs)).length := by omega
    unfold cntM at e2
    have := List.length_filter_eq_length_iff.1 e2 t ht
    simpa using this
  · intro e
    rw [cntM_all e]
/-! ### two tilings -/
theorem own_inj0 : ∀ q : Fin 64, (!(okD (dmAt q.val false) && okD (dmAt q.val true)) || !(ownD (dmAt q.val false) == ownD (dmAt q.val true))) = true := by decide +kernel
theorem own_inj {d e : Dm} (hd : okD d = true) (he : okD e = true) (h : ownD d = ownD e) : d = e := by
  have m1 := own_min hd
  have m2 := own_min he
  have hq : idxN (d.1, d.2.1) = idxN (e.1, e.2.1) := by
    have a1 := m1.2.2.1 _ (by rw [h]; exact m2.2.1)
    have a2 := m2.2.2.1 _ (by rw [← h]; exact m1.2.1)
    omega
  have e1 := dm_of hd
  have e2 := dm_of he
  rw [← hq] at e2
  have hf := own_inj0 ⟨idxN (d.1, d.2.1), m1.1⟩
  dsimp only at hf
  cases z1 : d.2.2 <;> cases z2 : e.2.2 <;> rw [z1] at e1 <;> rw [z2] at e2
  · rw [e1, e2]
  · rw [e1] at hd h; rw [e2] at he h
    rw [hd, he, h] at hf; simp at hf
  · rw [e1] at hd h; rw [e2] at he h
    rw [hd, he, h] at hf; simp at hf
  · rw [e1, e2]
theorem two_len {α : Type} {x y : α} (hne : x ≠ y) : ∀ {L : List α}, x ∈ L → y ∈ L → 2 ≤ L.length
  | [], h, _ => by cases h
  | [a], h1, h2 => by
    rw [List.mem_singleton] at h1 h2
    exact absurd (h1.trans h2.symm) hne
  | a :: b :: L, _, _ => by simp
/-- a list of dominoes that tiles a set of cells -/
structure TilA (R : Nat) (a : List Dm) : Prop where
  fac : TilF R a
  cov : covers a = R
theorem tilA_of {rs : List Int} (h : regOk rs = true) {t : List Dm} (ht : t ∈ tils 64 (regSet rs)) : TilA (regSet rs) t := by
  have := til_fac ((tils_iff h t).1 ht)
  exact ⟨this.2.1, this.2.2⟩
theorem TilA.ex {R : Nat} {a : List Dm} (h : TilA R a) {i : Nat} (hi : R.testBit i = true) : ∃ e ∈ a, (ownD e).testBit i = true := by
  have hc := h.cov
  rw [← hc, covers_bit, decide_eq_true_eq] at hi
  obtain ⟨e, h1, _, h3⟩ := hi
  exact ⟨e, h1, h3⟩
theorem two_diff {R : Nat} {a b : List Dm} (ha : TilA R a) (hb : TilA R b) {d : Dm} (h1 : d ∈ a) (h2 : d ∉ b) : 2 ≤ countCh a b := by
  have hd := ha.fac.ok d h1
  have p1 : (ownD d).testBit (idxN (c1D d)) = true := by rw [ownD_bit]; simp
  obtain ⟨e, eb, ep⟩ := hb.ex (ha.fac.sub d h1 _ p1)
  have he := hb.fac.ok e eb
  have ea : e ∉ a := fun h => h2 (by rw [ha.fac.dis d h1 e h _ p1 ep]; exact eb)
  have hne : ownD d ≠ ownD e := fun h => h2 (by rw [own_inj hd he h]; exact eb)
  -- a cell of e that d does not cover
  obtain ⟨r, r1, r2⟩ : ∃ r, (ownD e).testBit r = true ∧ (ownD d).testBit r = false := by
    apply Classical.byContradiction
    intro hno
    have hall : ∀ i, (ownD e).testBit i = true → (ownD d).testBit i = true := fun i hi => by
      cases hx : (ownD d).testBit i
      · exact absurd ⟨i, hi, hx⟩ hno
      · rfl
    apply hne
    have hc := card_diff (ownD_lt hd) (ownD_lt he) (sub_of_bits hall)
    have c1 : card (ownD d) = 2 := card_own hd
    have c2 : card (ownD e) = 2 := card_own he
    have c0 := (card_zero (bdiff_lt (ownD_lt hd))).1 (show card (bdiff (ownD d) (ownD e)) = 0 by omega)
    apply Nat.eq_of_testBit_eq
    intro i
    have := bdiff_bit (ownD_lt hd) (ownD_lt he) i
    rw [c0, Nat.zero_testBit] at this
    cases hx : (ownD d).testBit i <;> cases hy : (ownD e).testBit i
    · rfl
    · have := hall i hy; rw [hx] at this; cases this
    · rw [hx, hy] at this; cases this
    · rfl
  obtain ⟨g, ga, gr⟩ := ha.ex (hb.fac.sub e eb _ r1)
  have gd : d ≠ g := fun h => by rw [h, gr] at r2; cases r2
  have gb : g ∉ b := fun h => ea (by rw [← hb.fac.dis g h e eb _ gr r1]; exact ga)
  exact two_len gd (List.mem_filter.2 ⟨h1, by simpa using h2⟩) (List.mem_filter.2 ⟨ga, by simpa using gb⟩)
theorem filter_split {α : Type} (p : α → Bool) : ∀ l : List α, (l.filter p).length + (l.filter fun x => !p x).length = l.length
  | [] => rfl
  | a :: l => by
    have := filter_split p l
    cases h : p a <;> simp [h] <;> omega
theorem facs_len {R : Nat} {l : List Dm} (hR : R < 18446744073709551616) (h : TilF R l) : card (covers l) = 2 * l.length := by
  have hm : ∀ d, d ∈ sortD l ↔ d ∈ l := fun d => by
    rw [sortD_mem]
    exact ⟨fun h => h.1, fun h1 => ⟨h1, h.ok d h1⟩⟩
  have hn := (sortD_sor l).nd
  have hl : (sortD l).length = l.length := Nat.le_antisymm (nodup_subD hn fun d hd => (hm d).1 hd) (nodup_subD h.nd fun d hd => (hm d).2 hd)
  have hs := take_mk (sortD l) R none hR (h.mono (fun d hd => (hm d).1 hd) hn) (sortD_sor l).pair fun _ _ => rfl
  cases ht : takeP R none (sortD l) with
  | none => rw [ht] at hs; cases hs
  | some u =>
    obtain ⟨u1, u2, u3⟩ := takeP_some _ _ _ _ hR ht
    have := card_diff hR (covers_lt _) u2
    rw [← u1] at this
    rw [← covers_sort, ← hl]
    omega
theorem tilA_len {R : Nat} {a b : List Dm} (hR : R < 18446744073709551616) (ha : TilA R a) (hb : TilA R b) : a.length = b.length := by
  have h1 := facs_len hR ha.fac
  have h2 := facs_len hR hb.fac
  rw [ha.cov] at h1
  rw [hb.cov] at h2
  omega
theorem count_sym {R : Nat} {a b : List Dm} (hR : R < 18446744073709551616) (ha : TilA R a) (hb : TilA R b) : countCh a b = countCh b a := by
  have hl := tilA_len hR ha hb
  have s1 := filter_split (fun d => decide (d ∉ b)) a
  have s2 := filter_split (fun d => decide (d ∉ a)) b
  have hs : (a.filter fun d => !decide (d ∉ b)).length = (b.filter fun d => !decide (d ∉ a)).length := by
    apply Nat.le_antisymm
    · apply nodup_subD (ha.fac.nd.filter _)
      intro x hx
      simp only [List.mem_filter, Bool.not_eq_true', decide_eq_false_iff_not, Decidable.not_not] at hx ⊢
      exact ⟨hx.2, hx.1⟩
    · apply nodup_subD (hb.fac.nd.filter _)
      intro x hx
      simp only [List.mem_filter, Bool.not_eq_true', decide_eq_false_iff_not, Decidable.not_not] at hx ⊢
      exact ⟨hx.2, hx.1⟩
  unfold countCh
  omega
theorem changed_two {R : Nat} {a : List Dm} (hR : R < 18446744073709551616) (ha : TilF R a) (b : List Dm) : (changed a b).length = 2 * countCh a b := by
  have hg : TilF R (gone a b) := ha.mono (fun d hd => (List.mem_filter.1 hd).1) (ha.nd.filter _)
  unfold changed
  rw [card_cells, facs_len hR hg]
  rfl

/-! ### the nearest -/
theorem bestTo_spec {list : List Dm} {br : Dm} {all : List (List Dm)} : ∀ k, k ≤ all.length →
    (bestTo list br all k = none ∧ ∀ t ∈ all.take k, br ∈ t) ∨
    ∃ b t, bestTo list br all k = some b ∧ all[b]? = some t ∧ br ∉ t ∧ ∀ t' ∈ all.take k, br ∉ t' → countCh list t ≤ countCh list t' := by
  intro k
  induction k with
  | zero => intro _; exact .inl ⟨rfl, by simp⟩
  | succ k ih =>
    intro hk
    obtain ⟨own, ho⟩ : ∃ own, all[k]? = some own := ⟨_, List.getElem?_eq_getElem (by omega)⟩
    have htk : ∀ t, t ∈ all.take (k + 1) ↔ t ∈ all.take k ∨ t = own := fun t => by
      rw [List.take_add_one, ho]; simp
    by_cases hin : br ∈ own
    · rw [bestTo_in ho hin]
      rcases ih (by omega) with ⟨h1, h2⟩ | ⟨b, t, h1, h2, h3, h4⟩
      · refine .inl ⟨h1, fun t ht => ?_⟩
        rcases (htk t).1 ht with h | rfl
        · exact h2 t h
        · exact hin
      · refine .inr ⟨b, t, h1, h2, h3, fun t' ht hn => ?_⟩
        rcases (htk t').1 ht with h | rfl
        · exact h4 t' h hn
        · exact absurd hin hn
    · right
      rcases ih (by omega) with ⟨h1, h2⟩ | ⟨b, t, h1, h2, h3, h4⟩
      · rw [bestTo_first ho hin h1]
        refine ⟨k, own, rfl, ho, hin, fun t' ht hn => ?_⟩
        rcases (htk t').1 ht with h | rfl
        · exact absurd (h2 t' h) hn
        · exact Nat.le_refl _
      · rw [bestTo_next ho hin h1 h2]
        by_cases hlt : countCh list own < countCh list t
        · rw [if_pos hlt]
          refine ⟨k, own, rfl, ho, hin, fun t' ht hn => ?_⟩
          rcases (htk t').1 ht with h | rfl
          · have := h4 t' h hn; omega
          · exact Nat.le_refl _
        · rw [if_neg hlt]
          refine ⟨b, t, rfl, h2, h3, fun t' ht hn => ?_⟩
          rcases (htk t').1 ht with h | rfl
          · exact h4 t' h hn
          · omega
theorem repR_spec {rs : List Int} {list : List Dm} {br : Dm} (h : list ∈ listT rs) :
    (repR rs list br = none ∧ ∀ t ∈ listT rs, br ∈ t) ∨ ∃ t, repR rs list br = some t ∧ t ∈ listT rs ∧ br ∉ t ∧ ∀ t' ∈ listT rs, br ∉ t' → countCh list t ≤ countCh list t' := by
  rcases bestTo_spec (list := list) (br := br) (all := listT rs) _ (Nat.le_refl _) with ⟨h1, h2⟩ | ⟨b, t, h1, h2, h3, h4⟩
  · left
    rw [List.take_length] at h2
    exact ⟨repR_none h h1, h2⟩
  · right
    rw [List.take_length] at h4
    exact ⟨t, repR_some h h1 h2, List.mem_of_getElem? h2, h3, h4⟩
theorem cntOne (d : Dm) (t : List Dm) : countCh [d] t = if d ∈ t then 0 else 1 := by
  unfold countCh
  by_cases h : d ∈ t <;> simp [h]
/-! ### a flip -/
theorem flip_bits : ∀ (a b : Fin 7) (z : Bool), (okD ((a.val : Int), (b.val : Int), z) && okD (pr2 a.val b.val z) && decide (ownD ((a.val : Int), (b.val : Int), z) ||| ownD (pr2 a.val b.val z) = ownD ((a.val : Int), (b.val : Int), !z) ||| ownD (pr2 a.val b.val (!z))) && decide (ownD ((a.val : Int), (b.val : Int), z) &&& ownD (pr2 a.val b.val z) = 0) && !decide (((a.val : Int), (b.val : Int), z) = pr2 a.val b.val z)) = true := by decide +kernel
structure Pair (x y : Int) (z : Bool) : Prop where
  ok1 : okD (x, y, z) = true
  ok2 : okD (pr2 x y z) = true
  same : ∀ i, ((ownD (x, y, z)).testBit i || (ownD (pr2 x y z)).testBit i) = ((ownD (x, y, !z)).testBit i || (ownD (pr2 x y (!z))).testBit i)
  dis : ∀ i, (ownD (x, y, z)).testBit i = true → (ownD (pr2 x y z)).testBit i = true → False
  ne : (x, y, z) ≠ pr2 x y z
theorem pair_of {x y : Int} (hx : inB x 0 6 = true) (hy : inB y 0 6 = true) (z : Bool) : Pair x y z := by
  have h1 := inB_true.1 hx
  have h2 := inB_true.1 hy
  obtain ⟨X, rfl⟩ := Int.eq_ofNat_of_zero_le h1.1
  obtain ⟨Y, rfl⟩ := Int.eq_ofNat_of_zero_le h2.1
  have := flip_bits ⟨X, by omega⟩ ⟨Y, by omega⟩ z
  simp only [Bool.and_eq_true, decide_eq_true_eq, Bool.not_eq_true', decide_eq_false_iff_not] at this
  obtain ⟨⟨⟨⟨a1, a2⟩, a3⟩, a4⟩, a5⟩ := this
  refine ⟨a1, a2, fun i => ?_, fun i h1 h2 => ?_, a5⟩
  · rw [← Nat.testBit_or, ← Nat.testBit_or, a3]
  · have : (ownD ((X : Int), (Y : Int), z) &&& ownD (pr2 X Y z)).testBit i = true := by rw [Nat.testBit_and, h1, h2]; rfl
    rw [a4, Nat.zero_testBit] at this; cases this
theorem flip_til {R : Nat} {list : List Dm} (ha : TilA R list) {x y : Int} {z : Bool} (hx : inB x 0 6 = true) (hy : inB y 0 6 = true) (h1 : (x, y, z) ∈ list) (h2 : pr2 x y z ∈ list) : TilA R (flipO list x y z) := by
  have P := pair_of hx hy z
  have Q := pair_of hx hy (!z)
  have f := ha.fac
  -- a bit of a new one is a bit of an old one
  have old : ∀ e, e = (x, y, !z) ∨ e = pr2 x y (!z) → ∀ i, (ownD e).testBit i = true → (ownD (x, y, z)).testBit i = true ∨ (ownD (pr2 x y z)).testBit i = true := by
    intro e he i hi
    have := P.same i
    have hr : ((ownD (x, y, !z)).testBit i || (ownD (pr2 x y (!z))).testBit i) = true := by
      rcases he with rfl | rfl
      · rw [hi]; rfl
      · rw [hi, Bool.or_true]
    rw [hr, Bool.or_eq_true] at this
    exact this
  have mem : ∀ d, d ∈ flipO list x y z ↔ d = (x, y, !z) ∨ d = pr2 x y (!z) ∨ (d ∈ list ∧ d ≠ (x, y, z) ∧ d ≠ pr2 x y z) := by
    intro d
    unfold flipO
    simp [List.mem_filter]
  have apart : ∀ e, e = (x, y, !z) ∨ e = pr2 x y (!z) → ∀ g ∈ list, g ≠ (x, y, z) → g ≠ pr2 x y z → ∀ i, (ownD e).testBit i = true → (ownD g).testBit i = true → False := by
    intro e he g hg n1 n2 i i1 i2
    rcases old e he i i1 with h | h
    · exact n1 (f.dis g hg _ h1 i i2 h)
    · exact n2 (f.dis g hg _ h2 i i2 h)
  have okn : ∀ e, e = (x, y, !z) ∨ e = pr2 x y (!z) → okD e = true := by
    rintro e (rfl | rfl)
    · exact Q.ok1
    · exact Q.ok2
  have subn : ∀ e, e = (x, y, !z) ∨ e = pr2 x y (!z) → ∀ i, (ownD e).testBit i = true → R.testBit i = true := by
    intro e he i hi
    rcases old e he i hi with h | h
    · exact f.sub _ h1 i h
    · exact f.sub _ h2 i h
  have fac : TilF R (flipO list x y z) := by
    refine ⟨fun d hd => ?_, fun d hd i hi => ?_, fun d hd e he i i1 i2 => ?_, ?_⟩
    · rcases (mem d).1 hd with h | h | ⟨h, _⟩
      · exact okn d (.inl h)
      · exact okn d (.inr h)
      · exact f.ok d h
    · rcases (mem d).1 hd with h | h | ⟨h, _⟩
      · exact subn d (.inl h) i hi
      · exact subn d (.inr h) i hi
      · exact f.sub d h i hi
    · rcases (mem d).1 hd with h | h | ⟨h, n1, n2⟩ <;> rcases (mem e).1 he with k | k | ⟨k, m1, m2⟩
      · rw [h, k]
      · rw [h] at i1; rw [k] at i2; exact (Q.dis i i1 i2).elim
      · exact (apart d (.inl h) e k m1 m2 i i1 i2).elim
      · rw [h] at i1; rw [k] at i2; exact (Q.dis i i2 i1).elim
      · rw [h, k]
      · exact (apart d (.inr h) e k m1 m2 i i1 i2).elim
      · exact (apart e (.inl k) d h n1 n2 i i2 i1).elim
      · exact (apart e (.inr k) d h n1 n2 i i2 i1).elim
      · exact f.dis d h e k i i1 i2
    · unfold flipO
      have hn : (list.filter fun d => decide (d ≠ (x, y, z)) && decide (d ≠ pr2 x y z)).Nodup := f.nd.filter _
      have hno : ∀ e, e = (x, y, !z) ∨ e = pr2 x y (!z) → e ∉ (list.filter fun d => decide (d ≠ (x, y, z)) && decide (d ≠ pr2 x y z)) := by
        intro e he hm
        rw [List.mem_filter] at hm
        have hm2 : e ≠ (x, y, z) ∧ e ≠ pr2 x y z := by simpa using hm.2
        exact apart e he e hm.1 hm2.1 hm2.2 _ (ownD_self (okn e he)) (ownD_self (okn e he))
      show ((x, y, !z) :: pr2 x y (!z) :: _).Nodup
      refine List.nodup_cons.2 ⟨fun hm => ?_, List.nodup_cons.2 ⟨hno _ (.inr rfl), hn⟩⟩
      rcases List.mem_cons.1 hm with h | h
      · exact Q.ne h
      · exact hno _ (.inl rfl) h
  refine ⟨fac, ?_⟩
  apply Nat.eq_of_testBit_eq
  intro i
  rw [covers_bit]
  cases hR : R.testBit i
  · rw [decide_eq_false_iff_not]
    rintro ⟨d, hd, _, hb⟩
    rw [fac.sub d hd i hb] at hR; cases hR
  · rw [decide_eq_true_eq]
    obtain ⟨g, hg, gb⟩ := ha.ex hR
    have nw : ((ownD (x, y, z)).testBit i || (ownD (pr2 x y z)).testBit i) = true → ∃ d ∈ flipO list x y z, okD d = true ∧ (ownD d).testBit i = true := by
      intro h
      rw [P.same i, Bool.or_eq_true] at h
      rcases h with h | h
      · exact ⟨_, (mem _).2 (.inl rfl), Q.ok1, h⟩
      · exact ⟨_, (mem _).2 (.inr (.inl rfl)), Q.ok2, h⟩
    by_cases n1 : g = (x, y, z)
    · apply nw; rw [n1] at gb; rw [gb]; rfl
    · by_cases n2 : g = pr2 x y z
      · apply nw; rw [n2] at gb; rw [gb, Bool.or_true]
      · exact ⟨g, (mem g).2 (.inr (.inr ⟨hg, n1, n2⟩)), f.ok g hg, gb⟩
theorem sort_til {rs : List Int} (h : regOk rs = true) {l : List Dm} (ha : TilA (regSet rs) l) : sortD l ∈ tils 64 (regSet rs) := by
  rw [tils_iff h, isTiling_cov, (sort_part h ha.fac).1, covers_sort, ha.cov]
  simp
theorem flip_two {R : Nat} {list : List Dm} (ha : TilF R list) {x y : Int} {z : Bool} : countCh list (sortD (flipO list x y z)) ≤ 2 := by
  unfold countCh
  have h : ((list.filter fun d => decide (d ∉ sortD (flipO list x y z)))).length ≤ [(x, y, z), pr2 x y z].length := by
    apply nodup_subD (ha.nd.filter _)
    intro d hd
    rw [List.mem_filter] at hd
    have hn : d ∉ sortD (flipO list x y z) := by simpa using hd.2
    apply Classical.byContradiction
    intro hno
    apply hn
    rw [sortD_mem]
    refine ⟨?_, ha.ok d hd.1⟩
    unfold flipO
    rw [List.mem_append]
    right
    rw [List.mem_filter]
    refine ⟨hd.1, ?_⟩
    simp only [List.mem_cons, List.not_mem_nil, or_false, not_or] at hno
    simp [hno.1, hno.2]
  exact h
theorem kind_has {list : List Dm} {x y : Int} {k : Nat} {z : Bool} (h : kindD list x y = k) (h0 : 0 < k) (hz : (k == 2) = z) : (k = 1 ∨ k = 2) ∧ inB x 0 6 = true ∧ inB y 0 6 = true ∧ (x, y, z) ∈ list ∧ pr2 x y z ∈ list := by
  unfold kindD at h
  split at h
  · rename_i hi
    unfold kindF at h
    have fin : ∀ z, hasP list x y z = true → (x, y, z) ∈ list ∧ pr2 x y z ∈ list := fun z hp => by
      unfold hasP at hp
      simpa using hp
    split at h
    · rename_i hh
      subst h
      subst hz
      exact ⟨.inl rfl, hi.1, hi.2, fin _ hh.2⟩
    · split at h
      · rename_i hh
        subst h
        subst hz
        exact ⟨.inr rfl, hi.1, hi.2, fin _ hh.2⟩
      · omega
  · omega
/-! ### all that the law asks -/
theorem in_all {rs : List Int} (h : regOk rs = true) {list : List Dm} (ha : TilF (regSet rs) list) {d : Dm} (hd : d ∈ list) : d ∈ allD rs := by
  have hok := ha.ok d hd
  have hc := c12_nbr hok
  have b1 := ha.sub d hd (idxN (c1D d)) (by rw [ownD_bit]; simp)
  have b2 := ha.sub d hd (idxN (c2D d)) (by rw [ownD_bit]; simp)
  rw [mem_allD]
  constructor
  · rw [regCells_set h, mem_cellsBy]
    exact ⟨hc.1, b1⟩
  · unfold canW
    rw [hok, Bool.true_and]
    have := HasCell_bit h hc.2.1
    rw [show idxN ((c2D d).1, (c2D d).2) = idxN (c2D d) from rfl, b2] at this
    exact (Bool.and_eq_true_iff.1 this).2
structure RepL (rs : List Int) (list : List Dm) (d : Dm) : Prop where
  forced : (repR rs list d).isSome = decide (countCh [d] (forcedL rs) = 1)
  pos : (repR rs list d).isSome = decide (0 ≤ costR rs list d)
  worst : 0 ≤ worstR rs list ∧ worstR rs list < (list.length : Int)
  flip : ∀ x y k z, kindD list x y = k → 0 < k → (k == 2) = z → countCh [d] (sortD (flipO list x y z)) = 1 → costR rs list d = 2
  all : ∀ t, repR rs list d = some t → isTiling rs t = true ∧ 2 ≤ costR rs list d ∧ costR rs list d = (countCh list t : Int) ∧ countCh [d] t = 1 ∧ (changed list t).length = 2 * countCh list t ∧ (changed t list).length = 2 * countCh list t ∧ countCh list t ≤ 64
theorem repairs_law {rs : List Int} {list : List Dm} {d : Dm} (h1 : inB (cntT rs) 1 300 = true) (h2 : list ∈ tils 64 (regSet rs)) (hd : d ∈ list) : RepL rs list d := by
  obtain ⟨h, hT, _⟩ := listT_yes h1
  have hs := regSet_lt h
  have hl : list ∈ listT rs := by rw [hT]; exact h2
  have ha := tilA_of h h2
  have hok := ha.fac.ok d hd
  have hal := in_all h ha.fac hd
  have hfi : d ∈ forcedL rs ↔ ∀ t ∈ listT rs, d ∈ t := by
    rw [hT, ← withN_iff h hok (ha.fac.sub d hd)]
    unfold forcedL
    rw [List.mem_filter, decide_eq_true_eq]
    exact ⟨fun h => h.2, fun h => ⟨hal, h⟩⟩
  have hlen64 : list.length ≤ 64 := listT_item hl
  rcases repR_spec (br := d) hl with ⟨r1, r2⟩ | ⟨t, r1, r2, r3, r4⟩
  · have hc : costR rs list d = -1 := by unfold costR; rw [r1]
    refine ⟨?_, ?_, ?_, ?_, ?_⟩
    · rw [r1, cntOne, if_pos (hfi.2 r2)]; rfl
    · rw [r1, hc]; rfl
    · constructor
      · rw [worstR, if_pos hl]
        exact (wTo_pos (costAt_nonneg _ _) _ (List.length_pos_of_mem hd)).1
      · rw [worstR, if_pos hl]
        have := List.length_pos_of_mem hd
        rcases wTo_rng (costAt (listT rs) list) list.length with h | h
        · have := h.2; simp at this; omega
        · omega
    · intro x y k z hk h0 hz hn
      exfalso
      obtain ⟨_, i1, i2, i3, i4⟩ := kind_has hk h0 hz
      have hm := r2 _ (by rw [hT]; exact sort_til h (flip_til ha i1 i2 i3 i4))
      rw [cntOne, if_pos hm] at hn; cases hn
    · intro t ht; rw [r1] at ht; cases ht
  · have hc : costR rs list d = (countCh list t : Int) := by unfold costR; rw [r1]
    have ht : t ∈ tils 64 (regSet rs) := by rw [← hT]; exact r2
    have hb := tilA_of h ht
    have h22 := two_diff ha hb hd r3
    refine ⟨?_, ?_, ?_, ?_, ?_⟩
    · rw [r1, cntOne, if_neg (fun hf => r3 (hfi.1 hf t r2))]; rfl
    · rw [r1, hc]; simp
    · constructor
      · rw [worstR, if_pos hl]
        exact (wTo_pos (costAt_nonneg _ _) _ (List.length_pos_of_mem hd)).1
      · rw [worstR, if_pos hl]
        have := List.length_pos_of_mem hd
        rcases wTo_rng (costAt (listT rs) list) list.length with h | h
        · have := h.2; simp at this; omega
        · omega
    · intro x y k z hk h0 hz hn
      obtain ⟨_, i1, i2, i3, i4⟩ := kind_has hk h0 hz
      have hS := sort_til h (flip_til ha i1 i2 i3 i4)
      have hm : d ∉ sortD (flipO list x y z) := fun hm => by rw [cntOne, if_pos hm] at hn; cases hn
      have := r4 _ (by rw [hT]; exact hS) hm
      have := flip_two ha.fac (x := x) (y := y) (z := z)
      rw [hc]; omega
    · intro t' ht'
      rw [r1] at ht'
      injection ht' with ht'
      subst ht'
      have := countCh_le list t
      refine ⟨(tils_iff h t).1 ht, by rw [hc]; omega, hc, by rw [cntOne, if_neg r3], changed_two hs ha.fac t, ?_, by omega⟩
      rw [changed_two hs hb.fac list, count_sym hs hb ha]
theorem worst_nil (rs : List Int) : worstR rs [] = -1 := by
  unfold worstR
  split <;> rfl
end Go.Proofs.Ytdcjhfmkkcakhaa

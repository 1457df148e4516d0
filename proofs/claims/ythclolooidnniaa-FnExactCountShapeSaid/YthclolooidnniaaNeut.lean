/-
  Contracts of the functions that move a shape and weigh its turns (shifted, IsSymmetricShape, IsNeutral, IsProof): what each returns, as a function of its arguments; nothing that was there is written; at most 1048576 cells.
-/
import Derived.Test.YthclolooidnniaaTurnW
import Derived.Test.YthclolooidnniaaWeigh
import Derived.Test.YthclolooidnniaaRow
namespace Go.Proofs.Ythclolooidnniaa
open Go.ChangeShapes Go.WideShapes Go.ChangeAt Go.RowKit Go.Deep
set_option linter.unusedVariables false

def moveL (l : List Cl) (dx dy : Int) : List Cl := l.map fun c => (c.1 + dx, c.2 + dy)
def fitsL (l : List Cl) (dx dy : Int) : Bool := (moveL l dx dy).all fun c => cellOk c.1 c.2
theorem moveL_len (l : List Cl) (dx dy : Int) : (moveL l dx dy).length = l.length := by simp [moveL]
theorem moveL_get {l : List Cl} {k : Nat} {x y : Int} (h : l[k]? = some (x, y)) (dx dy : Int) : (moveL l dx dy)[k]? = some (x + dx, y + dy) := by simp [moveL, h]
theorem fitsL_at {l : List Cl} {k : Nat} {x y dx dy : Int} (h : l[k]? = some (x, y)) (hf : cellOk (x + dx) (y + dy) = false) : fitsL l dx dy = false := by
  unfold fitsL
  rw [List.all_eq_false]
  exact ⟨(x + dx, y + dy), List.mem_of_getElem? (moveL_get h dx dy), by dsimp only; rw [hf]; simp⟩
theorem fitsL_iff {l : List Cl} {dx dy : Int} : fitsL l dx dy = true ↔ ∀ c ∈ moveL l dx dy, cellOk c.1 c.2 = true := by unfold fitsL; rw [List.all_eq_true]
theorem moveL_strict {l : List Cl} (h : Strict l) {dx dy : Int} (hf : fitsL l dx dy = true) : Strict (moveL l dx dy) := by
  refine ⟨fitsL_iff.1 hf, ?_⟩
  have ha := h.asc
  have hok := fitsL_iff.1 hf
  unfold moveL at hok ⊢
  rw [List.pairwise_map] at ha
  rw [List.pairwise_map, List.pairwise_map]
  refine List.Pairwise.imp_of_mem (fun {a b} hma hmb hab => ?_) ha
  have h1 := cellOk_iff.1 (h.ok a hma)
  have h2 := cellOk_iff.1 (h.ok b hmb)
  have h3 := cellOk_iff.1 (hok _ (List.mem_map.2 ⟨a, hma, rfl⟩))
  have h4 := cellOk_iff.1 (hok _ (List.mem_map.2 ⟨b, hmb, rfl⟩))
  dsimp only at h3 h4
  unfold idxN at hab ⊢
  dsimp only
  omega
def symR (l : List Cl) : Bool := shapeOk l && decide ((turnsR l).length < 8)
theorem symR_eq {l : List Cl} (h : shapeOk l = true) : symR l = decide (((turnsR l).length : Int) < 8) := by
  unfold symR; rw [h, Bool.true_and]; congr 1; exact propext ⟨fun h => by omega, fun h => by omega⟩
theorem IsSymmetricShape_i (A : Option Addr) (N c : Nat) (l : List Cl) (w : World) (hN : N = l.length) (hl : N ≤ 1048576) (hr : RdC w A l) :
    Calls Try.prog 56 #[.slice A N c] w fun e w' => e = .returned (.bool (symR l)) ∧ Below w.heap.size w w' := by
  have HN := Lib.hid hN
  have hr' := Lib.hid hr
  have hB := Below.refl w.heap.size w
  cases c1 : shapeOk l
  · have hv := Lib.hid (show symR l = false by unfold symR; rw [c1]; rfl)
    have C1 := Lib.hid c1
    clear hN hr c1
    go_enter Try.func56, Try.ntmps56
    go_wp2_with (go_at_call 49; refine (ShapeOk_i A N c l _ HN.out hl (hr'.out.below hB)).mono ?_; rintro e wn ⟨rfl, hbn⟩; have hSz := bl_sz (bl_trans hB (by go_grown)) hbn; replace hB := bl_trans (bl_trans hB (by go_grown)) hbn; rw [C1.out]; clear hbn)
    go_ret
    exact ⟨ret_bool hv.out.symm, hB⟩
  · have hv := Lib.hid (symR_eq c1)
    have C1 := Lib.hid c1
    clear hN hr c1
    go_enter Try.func56, Try.ntmps56
    go_wp2_with (first | (go_at_call 49; refine (ShapeOk_i A N c l _ HN.out hl (hr'.out.below hB)).mono ?_; rintro e wn ⟨rfl, hbn⟩; have hSz := bl_sz (bl_trans hB (by go_grown)) hbn; replace hB := bl_trans (bl_trans hB (by go_grown)) hbn; rw [C1.out]; clear hbn) | (go_at_call 58; refine (TurnsOfShape_i A N c l _ HN.out hl (hr'.out.below hB)).mono ?_; rintro e wn ⟨v9, rfl, o9, hbn⟩; have hSz := bl_sz (bl_trans hB (by go_grown)) hbn; replace hB := bl_trans (bl_trans hB (by go_grown)) hbn; obtain ⟨A9, c9, rfl⟩ := o9.form; clear hbn))
    go_ret
    exact ⟨ret_bool hv.out.symm, hB⟩
theorem IsSymmetricShape_s (A : Option Addr) (N c : Nat) (l : List Cl) (w : World) (hN : N = l.length) (hl : N ≤ 1048576) (hr : RdC w A l) :
    Calls Try.prog 55 #[.slice A N c] w fun e w' => e = .returned (.bool (symR l)) ∧ Below w.heap.size w w' := by
  have HN := Lib.hid hN
  have hr' := Lib.hid hr
  have hB := Below.refl w.heap.size w
  cases c1 : shapeOk l
  · have hv := Lib.hid (show symR l = false by unfold symR; rw [c1]; rfl)
    have C1 := Lib.hid c1
    clear hN hr c1
    go_enter Try.func55, Try.ntmps55
    go_wp2_with (go_at_call 48; refine (ShapeOk_s A N c l _ HN.out hl (hr'.out.below hB)).mono ?_; rintro e wn ⟨rfl, hbn⟩; have hSz := bl_sz (bl_trans hB (by go_grown)) hbn; replace hB := bl_trans (bl_trans hB (by go_grown)) hbn; rw [C1.out]; clear hbn)
    go_ret
    exact ⟨ret_bool hv.out.symm, hB⟩
  · have hv := Lib.hid (symR_eq c1)
    have C1 := Lib.hid c1
    clear hN hr c1
    go_enter Try.func55, Try.ntmps55
    go_wp2_with (first | (go_at_call 48; refine (ShapeOk_s A N c l _ HN.out hl (hr'.out.below hB)).mono ?_; rintro e wn ⟨rfl, hbn⟩; have hSz := bl_sz (bl_trans hB (by go_grown)) hbn; replace hB := bl_trans (bl_trans hB (by go_grown)) hbn; rw [C1.out]; clear hbn) | (go_at_call 57; refine (TurnsOfShape_s A N c l _ HN.out hl (hr'.out.below hB)).mono ?_; rintro e wn ⟨v9, rfl, o9, hbn⟩; have hSz := bl_sz (bl_trans hB (by go_grown)) hbn; replace hB := bl_trans (bl_trans hB (by go_grown)) hbn; obtain ⟨A9, c9, rfl⟩ := o9.form; clear hbn))
    go_ret
    exact ⟨ret_bool hv.out.symm, hB⟩
def shBits (l : List Cl) (dx dy : Int) : Nat := if fitsL l dx dy then setL (moveL l dx dy) else 0
theorem shBits_no {l : List Cl} {dx dy : Int} (h : fitsL l dx dy = false) : shBits l dx dy = 0 := by unfold shBits; rw [h]; rfl
theorem shBits_yes {l : List Cl} {dx dy : Int} (h : fitsL l dx dy = true) : shBits l dx dy = setL (moveL l dx dy) := by unfold shBits; rw [h]; rfl
theorem shifted_any (A : Option Addr) (N c : Nat) (l : List Cl) (dx dy : Int) (w : World) (hN : N = l.length) (hl : N ≤ 1048576) (hr : RdC w A l) (hok : Box l) (hx : -100 ≤ dx ∧ dx ≤ 100) (hy : -100 ≤ dy ∧ dy ≤ 100) :
    Calls Try.prog 76 #[.slice A N c, .int .i64 dx, .int .i64 dy] w fun e w' => e = .returned (.tuple #[.int .u64 (shBits l dx dy : Int), .bool (fitsL l dx dy)]) ∧ Below w.heap.size w w' := by
  have HN := Lib.hid hN
  have hr' := Lib.hid hr
  have Hok := Lib.hid hok
  clear hN hr hok
  have hz : ∀ c ∈ l, (-7 ≤ c.1 ∧ c.1 ≤ 7) ∧ -7 ≤ c.2 ∧ c.2 ≤ 7 := fun c hc => by have := cellOk_iff.1 (Hok.out c hc); omega
  have Hz := Lib.hid hz
  clear hz
  go_enter Try.func76, Try.ntmps76
  go_wp2_with fail
  go_loopw [8, 14] (fun s i wr => ∃ k : Nat, k ≤ N ∧ i = .int .i64 k ∧ s = .int .u64 (setL ((moveL l dx dy).take k) : Int) ∧ Hid (∀ c ∈ (moveL l dx dy).take k, cellOk c.1 c.2 = true) ∧ Below w.heap.size w wr) (fun _ i _ => N - (intOf i).toNat)
  case atStart => exact ⟨0, by omega, rfl, rfl, Lib.hid (by simp), Below.refl _ _⟩
  case round =>
    obtain ⟨k, hk, rfl, rfl, HA, hB⟩ := hrel
    by_cases hlt : k < N
    · obtain ⟨b', off, x, y, rfl, hbl, hv, hd, _, _, hc0, hc1⟩ := (hr'.out.below hB).at_ (k := k) (by have := HN.out; omega)
      have hzz := Hz.out _ (List.mem_of_getElem? hv)
      dsimp only at hzz
      have hw0 : IntKind.i64.wrap (x + dx) = x + dx := IntWalk.i64_in _ (by omega)
      have hw1 : IntKind.i64.wrap (y + dy) = y + dy := IntWalk.i64_in _ (by omega)
      have hm := moveL_get hv dx dy
      have P := (Blk.new wr 49 [.int .i64 x, .int .i64 y]).alloc (.cells #[.int .i64 (x + dx), .int .i64 (y + dy)] 49)
      have Pc := P.c2
      have Q := Blk.new2 wr (.cells #[.int .i64 x, .int .i64 y] 49) 49 [.int .i64 (x + dx), .int .i64 (y + dy)]
      have Qc := Q.c2
      cases c1 : cellOk (x + dx) (y + dy)
      · have C1 := Lib.hid c1
        have hF := Lib.hid (fitsL_at hv c1)
        clear hm hv hd c1
        go_wp2_with (go_at_call 85; refine (CellOk_i _ _ _).mono ?_; rintro e wn ⟨rfl, hbn⟩; have hSz := bl_sz (bl_trans hB (by go_grown)) hbn; replace hB := bl_trans (bl_trans hB (by go_grown)) hbn; rw [C1.out]; clear hbn)
        go_ret2
        exact ⟨by rw [hF.out, shBits_no hF.out]; rfl, hB⟩
      · have C1 := Lib.hid c1
        have hsl : setL ((moveL l dx dy).take k) < 18446744073709551616 := setL_lt HA.out
        have hs' := Lib.hid (show setL ((moveL l dx dy).take (k + 1)) = setL ((moveL l dx dy).take k) ||| nthBit (x + dx) (y + dy) by rw [take_snoc_at hm, setL_snoc])
        have HA2 := Lib.hid (show ∀ c ∈ (moveL l dx dy).take (k + 1), cellOk c.1 c.2 = true from fun c hc => by
          rw [take_snoc_at hm] at hc
          rcases List.mem_append.1 hc with hc | hc
          · exact HA.out c hc
          · simp at hc; rw [hc]; exact c1)
        clear hm hv hd c1
        go_wp2_with (first | (go_at_call 85; refine (CellOk_i _ _ _).mono ?_; rintro e wn ⟨rfl, hbn⟩; have hSz := bl_sz (bl_trans hB (by go_grown)) hbn; replace hB := bl_trans (bl_trans hB (by go_grown)) hbn; replace P := P.bel (bl_trans (by go_grown) hbn); replace Pc := P.c2; replace Q := Q.bel (bl_trans (by go_grown) hbn); replace Qc := Q.c2; rw [C1.out]; clear hbn) | (go_at_call 116; refine (with_any _ _ _ _ hsl C1.out).mono ?_; rintro e wn ⟨rfl, hbn⟩; have hSz := bl_sz (bl_trans hB (by go_grown)) hbn; replace hB := bl_trans (bl_trans hB (by go_grown)) hbn; clear hbn))
        go_roundw
        case rel => exact ⟨k + 1, by omega, by go_num, by rw [hs'.out], HA2, hB⟩
        case measure => simp [intOf]; omega
    · obtain rfl : k = N := by omega
      have ht : (moveL l dx dy).take k = moveL l dx dy := List.take_of_length_le (by rw [moveL_len]; have := HN.out; omega)
      have hF := Lib.hid (show fitsL l dx dy = true from fitsL_iff.2 (by rw [← ht]; exact HA.out))
      rw [ht]
      clear ht
      go_wp2_with fail
      go_ret2
      exact ⟨by rw [hF.out, shBits_yes hF.out]; rfl, hB⟩
def okAt (a b m : Int) (l : List Int) (own : List Cl) (i : Nat) : Bool := !(fitsL own ((i % 8 : Nat) : Int) ((i / 8 : Nat) : Int)) || ((sumW a b m l (moveL own ((i % 8 : Nat) : Int) ((i / 8 : Nat) : Int))) % m == 0)
def neutR (a b m : Int) (l : List Int) (s : List Cl) : Bool := patOk a b m l && shapeOk s && (turnsR s).all fun own => (List.range 64).all (okAt a b m l own)
theorem neutR_no1 {a b m : Int} {l : List Int} (s : List Cl) (h : patOk a b m l = false) : neutR a b m l s = false := by simp [neutR, h]
theorem neutR_no2 (a b m : Int) (l : List Int) {s : List Cl} (h : shapeOk s = false) : neutR a b m l s = false := by simp [neutR, h]
theorem neutR_bad {a b m : Int} {l : List Int} {s own : List Cl} {t i : Nat} (h : (turnsR s)[t]? = some own) (hi : i < 64) (hb : okAt a b m l own i = false) : neutR a b m l s = false := by
  unfold neutR
  rw [Bool.and_eq_false_iff, List.all_eq_false]
  refine .inr ⟨own, List.mem_of_getElem? h, ?_⟩
  rw [Bool.not_eq_true, List.all_eq_false]
  exact ⟨i, List.mem_range.2 hi, by rw [hb]; simp⟩
theorem neutR_yes {a b m : Int} {l : List Int} {s : List Cl} (h1 : patOk a b m l = true) (h2 : shapeOk s = true) (h : ∀ own ∈ turnsR s, ∀ i < 64, okAt a b m l own i = true) : neutR a b m l s = true := by
  unfold neutR
  rw [h1, h2, Bool.true_and, Bool.true_and, List.all_eq_true]
  intro own ho
  rw [List.all_eq_true]
  exact fun i hi => h own ho i (List.mem_range.1 hi)
theorem okAt_no {a b m : Int} {l : List Int} {own : List Cl} {i : Nat} {dx dy : Int} (hx : dx = ((i % 8 : Nat) : Int)) (hy : dy = ((i / 8 : Nat) : Int)) (h : fitsL own dx dy = false) : okAt a b m l own i = true := by
  subst hx; subst hy; unfold okAt; rw [h]; rfl
theorem okAt_yes {a b m : Int} {l : List Int} {own : List Cl} {i : Nat} {dx dy : Int} (hx : dx = ((i % 8 : Nat) : Int)) (hy : dy = ((i / 8 : Nat) : Int)) (h : fitsL own dx dy = true) : okAt a b m l own i = (sumW a b m l (moveL own dx dy) % m == 0) := by
  subst hx; subst hy; unfold okAt; rw [h]; rfl
theorem all_snoc_lt {p : Nat → Prop} {q : Nat} (h : ∀ j < q, p j) (hq : p q) : ∀ j < q + 1, p j := fun j hj => by
  by_cases e : j = q
  · subst e; exact hq
  · exact h j (by omega)
theorem all_take_snoc {α : Type} {p : α → Prop} {l : List α} {k : Nat} {x : α} (h : ∀ y ∈ l.take k, p y) (hx : l[k]? = some x) (hp : p x) : ∀ y ∈ l.take (k + 1), p y := fun y hy => by
  rw [take_snoc_at hx] at hy
  rcases List.mem_append.1 hy with hy | hy
  · exact h y hy
  · simp at hy; rw [hy]; exact hp
set_option maxRecDepth 100000 in
set_option maxHeartbeats 2000000 in
theorem IsNeutral_i (a b m : Int) (A : Option Addr) (c : Nat) (l : List Int) (B : Option Addr) (N d : Nat) (s : List Cl) (w : World) (hl : l.length ≤ 1048576) (hr : RdI w A l) (hN : N = s.length) (hl2 : N ≤ 1048576) (hs : RdC w B s) :
    Calls Try.prog 33 #[.agg #[.int .i64 a, .int .i64 b, .int .i64 m, .slice A l.length c], .slice B N d] w fun e w' => e = .returned (.bool (neutR a b m l s)) ∧ Below w.heap.size w w' := by
  (have hB := Below.refl w.heap.size w; have P := Blk.new w 32 [.int .i64 a, .int .i64 b, .int .i64 m, .slice A l.length c]; have Pc := P.c4)
  have hr' := Lib.hid hr
  have hs' := Lib.hid hs
  have HN := Lib.hid hN
  clear hr hs hN
  cases h1 : patOk a b m l
  · have H := Lib.hid (neutR_no1 s h1)
    have H1 := Lib.hid h1
    clear h1
    go_enter Try.func33, Try.ntmps33
    go_wp2_with (go_at_call 32; refine (PatternOk_i _ _ _ A c l _ hl (hr'.out.below (bl_trans hB (by go_grown)))).mono ?_; rintro e wn ⟨rfl, hbn⟩; have hSz := bl_sz (bl_trans hB (by go_grown)) hbn; replace hB := bl_trans (bl_trans hB (by go_grown)) hbn; replace P := P.bel (bl_trans (by go_grown) hbn); replace Pc := P.c4; rw [H1.out]; clear hbn)
    go_ret
    exact ⟨ret_bool H.out.symm, (by first | (go_grown; done) | exact bl_trans hB (by go_grown))⟩
  · cases h2 : shapeOk s
    · have H := Lib.hid (neutR_no2 a b m l h2)
      have H1 := Lib.hid h1
      have H2 := Lib.hid h2
      clear h1 h2
      go_enter Try.func33, Try.ntmps33
      go_wp2_with (first | (go_at_call 32; refine (PatternOk_i _ _ _ A c l _ hl (hr'.out.below (bl_trans hB (by go_grown)))).mono ?_; rintro e wn ⟨rfl, hbn⟩; have hSz := bl_sz (bl_trans hB (by go_grown)) hbn; replace hB := bl_trans (bl_trans hB (by go_grown)) hbn; replace P := P.bel (bl_trans (by go_grown) hbn); replace Pc := P.c4; rw [H1.out]; clear hbn) | (go_at_call 49; refine (ShapeOk_i B N d s _ HN.out hl2 (hs'.out.below (bl_trans hB (by go_grown)))).mono ?_; rintro e wn ⟨rfl, hbn⟩; have hSz := bl_sz (bl_trans hB (by go_grown)) hbn; replace hB := bl_trans (bl_trans hB (by go_grown)) hbn; replace P := P.bel (bl_trans (by go_grown) hbn); replace Pc := P.c4; rw [H2.out]; clear hbn))
      go_ret
      exact ⟨ret_bool H.out.symm, (by first | (go_grown; done) | exact bl_trans hB (by go_grown))⟩
    · have p1 := patOk_true h1
      have n1 : m ≠ 0 := by omega
      have H1 := Lib.hid h1
      have H2 := Lib.hid h2
      have hM8 := turnsR_len s
      obtain ⟨M, hM⟩ : ∃ M, M = (turnsR s).length := ⟨_, rfl⟩
      have HM := Lib.hid hM
      rw [← hM] at hM8
      clear h1 h2 hM p1
      go_enter Try.func33, Try.ntmps33
      go_wp2_with (first | (go_at_call 32; refine (PatternOk_i _ _ _ A c l _ hl (hr'.out.below (bl_trans hB (by go_grown)))).mono ?_; rintro e wn ⟨rfl, hbn⟩; have hSz := bl_sz (bl_trans hB (by go_grown)) hbn; replace hB := bl_trans (bl_trans hB (by go_grown)) hbn; replace P := P.bel (bl_trans (by go_grown) hbn); replace Pc := P.c4; rw [H1.out]; clear hbn) | (go_at_call 49; refine (ShapeOk_i B N d s _ HN.out hl2 (hs'.out.below (bl_trans hB (by go_grown)))).mono ?_; rintro e wn ⟨rfl, hbn⟩; have hSz := bl_sz (bl_trans hB (by go_grown)) hbn; replace hB := bl_trans (bl_trans hB (by go_grown)) hbn; replace P := P.bel (bl_trans (by go_grown) hbn); replace Pc := P.c4; rw [H2.out]; clear hbn) | (go_at_call 58; refine (TurnsOfShape_i B N d s _ HN.out hl2 (hs'.out.below (bl_trans hB (by go_grown)))).mono ?_; rintro e wt ⟨v9, rfl, o9, hbn⟩; have hSz := bl_sz (bl_trans hB (by go_grown)) hbn; replace hB := bl_trans (bl_trans hB (by go_grown)) hbn; replace P := P.bel (bl_trans (by go_grown) hbn); replace Pc := P.c4; obtain ⟨A9, c9, rfl⟩ := o9.form; rw [← HM.out] at o9 ⊢; have RT := Lib.hid (InCC.rd o9); clear o9; clear hbn))
      have PT := Lib.hid P
      have HBt := Lib.hid hB
      clear P Pc hB
      go_loopw [21] (fun i wr => ∃ t : Nat, t ≤ M ∧ i = .int .i64 t ∧ Hid (∀ own ∈ (turnsR s).take t, ∀ i < 64, okAt a b m l own i = true) ∧ Below wt.heap.size wt wr) (fun i _ => M - (intOf i).toNat)
      case atStart => exact ⟨0, by omega, rfl, Lib.hid (by simp), Below.refl _ _⟩
      case round =>
        obtain ⟨t, ht, rfl, HA, hBn⟩ := hrel
        by_cases hlt : t < M
        · obtain ⟨b7, off7, own, A7, c7, rfl, hb7, hv7, _, hro, e7⟩ := (RT.out.below hBn).at_ (k := t) (by have := HM.out; omega)
          have hst := turnsR_of (List.mem_of_getElem? hv7)
          obtain ⟨n7, hn7⟩ : ∃ n, n = own.length := ⟨_, rfl⟩
          have hn5 : n7 ≤ 5 := by omega
          rw [← hn7] at e7
          have HN7 := Lib.hid hn7
          have HO := Lib.hid hst.1
          have HR7 := Lib.hid hro
          have HV := Lib.hid hv7
          have HBn := Lib.hid hBn
          have PN := Lib.hid (PT.out.bel hBn)
          clear hv7 hst hn7 hro
          obtain ⟨wo, rfl⟩ : ∃ wo : World, wo = wr := ⟨_, rfl⟩
          go_wp2_with fail
          go_loopw [25] (fun i wr => ∃ q : Nat, q ≤ 64 ∧ i = .int .i64 q ∧ Hid (∀ j < q, okAt a b m l own j = true) ∧ Below wo.heap.size wo wr) (fun i _ => 64 - (intOf i).toNat)
          case atStart => exact ⟨0, by omega, rfl, Lib.hid (by intro j hj; omega), Below.refl _ _⟩
          case round =>
            obtain ⟨q, hq, rfl, HQ, hB⟩ := hrel
            by_cases hq64 : q < 64
            · have P := PN.out.bel hB
              have Pc := P.c4
              obtain ⟨dx, hdx⟩ : ∃ dx : Int, dx = ((q % 8 : Nat) : Int) := ⟨_, rfl⟩
              obtain ⟨dy, hdy⟩ : ∃ dy : Int, dy = ((q / 8 : Nat) : Int) := ⟨_, rfl⟩
              have e1 : Int.tmod (q : Int) 8 = dx := by rw [Int.tmod_eq_emod_of_nonneg (by omega)]; omega
              have e2 : Int.tdiv (q : Int) 8 = dy := by rw [Int.tdiv_eq_ediv_of_nonneg (by omega)]; omega
              have hx7 : 0 ≤ dx ∧ dx ≤ 7 := by omega
              have hy7 : 0 ≤ dy ∧ dy ≤ 7 := by omega
              have e3 : (q : Int) % 8 = dx := by omega
              have e4 : (q : Int) / 8 = dy := by omega
              have HX := Lib.hid hdx
              have HY := Lib.hid hdy
              clear hdx hdy
              have hsame : Below w.heap.size w wo := HBt.out.trans (HBn.out.mono HBt.out.size)
              have HSame := Lib.hid hsame
              have hwz := hsame.size
              clear hsame
              cases hf : fitsL own dx dy
              · have HS := Lib.hid (shBits_no hf)
                have HF := Lib.hid hf
                have HQ2 := Lib.hid (all_snoc_lt HQ.out (okAt_no (a := a) (b := b) (m := m) (l := l) HX.out HY.out hf))
                clear hf
                go_wp2_with (go_at_call 76; refine (shifted_any A7 n7 c7 own _ _ _ HN7.out (by omega) (HR7.out.below (bl_trans hB (by go_grown))) HO.out.ok (by omega) (by omega)).mono ?_; rintro e wn ⟨rfl, hbn⟩; have hSz := bl_sz (bl_trans hB (by go_grown)) hbn; replace hB := bl_trans (bl_trans hB (by go_grown)) hbn; replace P := P.bel (bl_trans (by go_grown) hbn); replace Pc := P.c4; rw [HF.out, HS.out]; clear hbn)
                (refine wp_region_quiet_bel (by kernel_rfl) (by kernel_rfl) ?_; (repeat (first | go_big_quiet_step (fail) | quiet_step (fail))); refine wpQuiet_nil ?_; intro wq hw0; obtain ⟨⟨_, hbq⟩, hw1⟩ := hw0; subst hw1; try dsimp only)
                go_wp2_with fail
                go_roundw
                case rel => exact ⟨q + 1, by omega, by go_num, HQ2, bl_trans hB hbq⟩
                case measure => simp [intOf]; omega
              · have HS := Lib.hid (shBits_yes hf)
                have HF := Lib.hid hf
                obtain ⟨bs, hbs⟩ : ∃ bs, bs = setL (moveL own dx dy) := ⟨_, rfl⟩
                have hb64 : bs < 18446744073709551616 := by rw [hbs]; exact setL_lt (fitsL_iff.1 hf)
                have HC := Lib.hid (show cellsBy bs.testBit 64 = moveL own dx dy by rw [hbs]; exact (moveL_strict HO.out hf).cells)
                rw [← hbs] at HS
                have hml : (moveL own dx dy).length ≤ 64 := by rw [moveL_len]; have := HN7.out; omega
                obtain ⟨r, hr⟩ : ∃ r, r = sumW a b m l (moveL own dx dy) % m := ⟨_, rfl⟩
                have HRR := Lib.hid hr
                have hok : okAt a b m l own q = (r == 0) := by rw [hr]; exact okAt_yes HX.out HY.out hf
                clear hbs hf hr
                cases hz : (r == 0)
                · have HBad := Lib.hid (neutR_bad HV.out hq64 (hok.trans hz))
                  have hz1 : (r != 0) = true := by simp [bne, hz]
                  clear hok
                  go_wp2_with (go_at_call 76; refine (shifted_any A7 n7 c7 own _ _ _ HN7.out (by omega) (HR7.out.below (bl_trans hB (by go_grown))) HO.out.ok (by omega) (by omega)).mono ?_; rintro e wn ⟨rfl, hbn⟩; have hSz := bl_sz (bl_trans hB (by go_grown)) hbn; replace hB := bl_trans (bl_trans hB (by go_grown)) hbn; replace P := P.bel (bl_trans (by go_grown) hbn); replace Pc := P.c4; rw [HF.out, HS.out]; clear hbn)
                  go_region_held3 (fun w' => (w'.cell? ⟨w.heap.size, 0, none⟩ = some (.int .i64 a) ∧ w'.cell? ⟨w.heap.size, 1, none⟩ = some (.int .i64 b) ∧ w'.cell? ⟨w.heap.size, 2, none⟩ = some (.int .i64 m) ∧ w'.cell? ⟨w.heap.size, 3, none⟩ = some (.slice A l.length c))) (go_keep)
                    (first | (go_at_call 78; refine (cells_any bs _ hb64).mono ?_; rintro e wn ⟨v1, rfl, o1, hbn⟩; have hSz := bl_sz (bl_trans hB (by go_grown)) hbn; replace hB := bl_trans (bl_trans hB (by go_grown)) hbn; replace P := P.bel (bl_trans (by go_grown) hbn); replace Pc := P.c4; rw [HC.out] at o1; obtain ⟨⟨A1, c1, rfl⟩, _⟩ := id o1; have R1 := Lib.hid o1.rd; clear o1; clear hbn) | (go_at_call 77; refine (weigh_any a b m A c l A1 c1 (moveL own dx dy) _ hl (hr'.out.below (HSame.out.trans ((bl_trans hB (by go_grown)).mono hwz))) hml (R1.out.below (by go_grown)) n1).mono ?_; rintro e wn ⟨rfl, hbn⟩; have hSz := bl_sz (bl_trans hB (by go_grown)) hbn; replace hB := bl_trans (bl_trans hB (by go_grown)) hbn; replace P := P.bel (bl_trans (by go_grown) hbn); replace Pc := P.c4; rw [← HRR.out]; clear hbn))
                  go_wp2_with fail
                  go_ret
                  exact ⟨ret_bool HBad.out.symm, HSame.out.trans (hB.mono hwz)⟩
                · have HQ2 := Lib.hid (all_snoc_lt HQ.out (hok.trans hz))
                  have hz1 : (r != 0) = false := by simp [bne, hz]
                  clear hok
                  go_wp2_with (go_at_call 76; refine (shifted_any A7 n7 c7 own _ _ _ HN7.out (by omega) (HR7.out.below (bl_trans hB (by go_grown))) HO.out.ok (by omega) (by omega)).mono ?_; rintro e wn ⟨rfl, hbn⟩; have hSz := bl_sz (bl_trans hB (by go_grown)) hbn; replace hB := bl_trans (bl_trans hB (by go_grown)) hbn; replace P := P.bel (bl_trans (by go_grown) hbn); replace Pc := P.c4; rw [HF.out, HS.out]; clear hbn)
                  go_region_held3 (fun w' => (w'.cell? ⟨w.heap.size, 0, none⟩ = some (.int .i64 a) ∧ w'.cell? ⟨w.heap.size, 1, none⟩ = some (.int .i64 b) ∧ w'.cell? ⟨w.heap.size, 2, none⟩ = some (.int .i64 m) ∧ w'.cell? ⟨w.heap.size, 3, none⟩ = some (.slice A l.length c))) (go_keep)
                    (first | (go_at_call 78; refine (cells_any bs _ hb64).mono ?_; rintro e wn ⟨v1, rfl, o1, hbn⟩; have hSz := bl_sz (bl_trans hB (by go_grown)) hbn; replace hB := bl_trans (bl_trans hB (by go_grown)) hbn; replace P := P.bel (bl_trans (by go_grown) hbn); replace Pc := P.c4; rw [HC.out] at o1; obtain ⟨⟨A1, c1, rfl⟩, _⟩ := id o1; have R1 := Lib.hid o1.rd; clear o1; clear hbn) | (go_at_call 77; refine (weigh_any a b m A c l A1 c1 (moveL own dx dy) _ hl (hr'.out.below (HSame.out.trans ((bl_trans hB (by go_grown)).mono hwz))) hml (R1.out.below (by go_grown)) n1).mono ?_; rintro e wn ⟨rfl, hbn⟩; have hSz := bl_sz (bl_trans hB (by go_grown)) hbn; replace hB := bl_trans (bl_trans hB (by go_grown)) hbn; replace P := P.bel (bl_trans (by go_grown) hbn); replace Pc := P.c4; rw [← HRR.out]; clear hbn))
                  go_wp2_with fail
                  go_roundw
                  case rel => exact ⟨q + 1, by omega, by go_num, HQ2, hB⟩
                  case measure => simp [intOf]; omega
            · obtain rfl : q = 64 := by omega
              have HA2 := Lib.hid (all_take_snoc HA.out HV.out HQ.out)
              go_wp2_with fail
              go_roundw
              case rel => exact ⟨t + 1, by omega, by go_num, HA2, bl_trans HBn.out hB⟩
              case measure => simp [intOf]; omega
        · have HY := Lib.hid (neutR_yes H1.out H2.out (by have h := HA.out; rwa [List.take_of_length_le (by have := HM.out; omega)] at h))
          go_wp2_with fail
          go_ret
          exact ⟨ret_bool HY.out.symm, HBt.out.trans (hBn.mono HBt.out.size)⟩
def fitsTo (own : List Cl) (dx dy : Int) (j : Nat) : Bool := ((moveL own dx dy).take j).all fun c => cellOk c.1 c.2
theorem fitsTo_succ {own : List Cl} {j : Nat} {x y : Int} (h : own[j]? = some (x, y)) (dx dy : Int) : fitsTo own dx dy (j + 1) = (fitsTo own dx dy j && cellOk (x + dx) (y + dy)) := by
  unfold fitsTo; rw [take_snoc_at (moveL_get h dx dy)]; simp
theorem fitsTo_all (own : List Cl) (dx dy : Int) {j : Nat} (h : j = own.length) : fitsTo own dx dy j = fitsL own dx dy := by
  unfold fitsTo fitsL; rw [List.take_of_length_le (by rw [moveL_len]; omega)]
set_option maxRecDepth 100000 in
set_option maxHeartbeats 2000000 in
theorem IsNeutral_s (a b m : Int) (A : Option Addr) (c : Nat) (l : List Int) (B : Option Addr) (N d : Nat) (s : List Cl) (w : World) (hl : l.length ≤ 1048576) (hr : RdI w A l) (hN : N = s.length) (hl2 : N ≤ 1048576) (hs : RdC w B s) :
    Calls Try.prog 62 #[.agg #[.int .i64 a, .int .i64 b, .int .i64 m, .slice A l.length c], .slice B N d] w fun e w' => e = .returned (.bool (neutR a b m l s)) ∧ Below w.heap.size w w' := by
  (have hB := Below.refl w.heap.size w; have P := Blk.new w 32 [.int .i64 a, .int .i64 b, .int .i64 m, .slice A l.length c]; have Pc := P.c4)
  have hr' := Lib.hid hr
  have hs' := Lib.hid hs
  have HN := Lib.hid hN
  clear hr hs hN
  cases h1 : patOk a b m l
  · have H := Lib.hid (neutR_no1 s h1)
    have H1 := Lib.hid h1
    clear h1
    go_enter Try.func62, Try.ntmps62
    go_wp2_with (go_at_call 88; refine (PatternOk_s _ _ _ A c l _ hl (hr'.out.below (bl_trans hB (by go_grown)))).mono ?_; rintro e wn ⟨rfl, hbn⟩; have hSz := bl_sz (bl_trans hB (by go_grown)) hbn; replace hB := bl_trans (bl_trans hB (by go_grown)) hbn; replace P := P.bel (bl_trans (by go_grown) hbn); replace Pc := P.c4; rw [H1.out]; clear hbn)
    go_ret
    exact ⟨ret_bool H.out.symm, (by first | (go_grown; done) | exact bl_trans hB (by go_grown))⟩
  · cases h2 : shapeOk s
    · have H := Lib.hid (neutR_no2 a b m l h2)
      have H1 := Lib.hid h1
      have H2 := Lib.hid h2
      clear h1 h2
      go_enter Try.func62, Try.ntmps62
      go_wp2_with (first | (go_at_call 88; refine (PatternOk_s _ _ _ A c l _ hl (hr'.out.below (bl_trans hB (by go_grown)))).mono ?_; rintro e wn ⟨rfl, hbn⟩; have hSz := bl_sz (bl_trans hB (by go_grown)) hbn; replace hB := bl_trans (bl_trans hB (by go_grown)) hbn; replace P := P.bel (bl_trans (by go_grown) hbn); replace Pc := P.c4; rw [H1.out]; clear hbn) | (go_at_call 48; refine (ShapeOk_s B N d s _ HN.out hl2 (hs'.out.below (bl_trans hB (by go_grown)))).mono ?_; rintro e wn ⟨rfl, hbn⟩; have hSz := bl_sz (bl_trans hB (by go_grown)) hbn; replace hB := bl_trans (bl_trans hB (by go_grown)) hbn; replace P := P.bel (bl_trans (by go_grown) hbn); replace Pc := P.c4; rw [H2.out]; clear hbn))
      go_ret
      exact ⟨ret_bool H.out.symm, (by first | (go_grown; done) | exact bl_trans hB (by go_grown))⟩
    · have p1 := patOk_true h1
      have p2 : 2 ≤ m ∧ m ≤ 9 := by omega
      have n1 : (m == 0) = false := by simp; omega
      have n2 : m ≠ 0 := by omega
      have H1 := Lib.hid h1
      have H2 := Lib.hid h2
      have hM8 := turnsR_len s
      obtain ⟨M, hM⟩ : ∃ M, M = (turnsR s).length := ⟨_, rfl⟩
      have HM := Lib.hid hM
      rw [← hM] at hM8
      clear h1 h2 hM p1
      go_enter Try.func62, Try.ntmps62
      go_wp2_with (first | (go_at_call 88; refine (PatternOk_s _ _ _ A c l _ hl (hr'.out.below (bl_trans hB (by go_grown)))).mono ?_; rintro e wn ⟨rfl, hbn⟩; have hSz := bl_sz (bl_trans hB (by go_grown)) hbn; replace hB := bl_trans (bl_trans hB (by go_grown)) hbn; replace P := P.bel (bl_trans (by go_grown) hbn); replace Pc := P.c4; rw [H1.out]; clear hbn) | (go_at_call 48; refine (ShapeOk_s B N d s _ HN.out hl2 (hs'.out.below (bl_trans hB (by go_grown)))).mono ?_; rintro e wn ⟨rfl, hbn⟩; have hSz := bl_sz (bl_trans hB (by go_grown)) hbn; replace hB := bl_trans (bl_trans hB (by go_grown)) hbn; replace P := P.bel (bl_trans (by go_grown) hbn); replace Pc := P.c4; rw [H2.out]; clear hbn) | (go_at_call 57; refine (TurnsOfShape_s B N d s _ HN.out hl2 (hs'.out.below (bl_trans hB (by go_grown)))).mono ?_; rintro e wt ⟨v9, rfl, o9, hbn⟩; have hSz := bl_sz (bl_trans hB (by go_grown)) hbn; replace hB := bl_trans (bl_trans hB (by go_grown)) hbn; replace P := P.bel (bl_trans (by go_grown) hbn); replace Pc := P.c4; obtain ⟨A9, c9, rfl⟩ := o9.form; rw [← HM.out] at o9 ⊢; have RT := Lib.hid (OwCC.rd o9); clear o9; clear hbn))
      have PT := Lib.hid P
      have HBt := Lib.hid hB
      clear P Pc hB
      go_loopw [6] (fun i wr => ∃ t : Nat, t ≤ M ∧ i = .int .i64 t ∧ Hid (∀ own ∈ (turnsR s).take t, ∀ i < 64, okAt a b m l own i = true) ∧ Below wt.heap.size wt wr) (fun i _ => M - (intOf i).toNat)
      case atStart => exact ⟨0, by omega, rfl, Lib.hid (by simp), Below.refl _ _⟩
      case round =>
        obtain ⟨t, ht, rfl, HA, hBn⟩ := hrel
        by_cases hlt : t < M
        · obtain ⟨b7, off7, own, A7, c7, rfl, hb7, hv7, _, hro, e7⟩ := (RT.out.below hBn).at_ (k := t) (by have := HM.out; omega)
          have hst := turnsR_of (List.mem_of_getElem? hv7)
          obtain ⟨n7, hn7⟩ : ∃ n, n = own.length := ⟨_, rfl⟩
          have hn5 : n7 ≤ 5 := by omega
          rw [← hn7] at e7
          have HN7 := Lib.hid hn7
          have HO := Lib.hid hst.1
          have HR7 := Lib.hid hro
          have HV := Lib.hid hv7
          have HBn := Lib.hid hBn
          have PN := Lib.hid (PT.out.bel hBn)
          have E7 := Lib.hid e7
          clear hv7 hst hn7 hro e7
          obtain ⟨wo, rfl⟩ : ∃ wo : World, wo = wr := ⟨_, rfl⟩
          have HSame := Lib.hid (HBt.out.trans (HBn.out.mono HBt.out.size))
          have hwz := HSame.out.size
          go_wp2_with fail
          go_loopw [7] (fun i wr => ∃ q : Nat, q ≤ 64 ∧ i = .int .i64 q ∧ Hid (∀ j < q, okAt a b m l own j = true) ∧ Below wo.heap.size wo wr) (fun i _ => 64 - (intOf i).toNat)
          case atStart => exact ⟨0, by omega, rfl, Lib.hid (by intro j hj; omega), Below.refl _ _⟩
          case round =>
            obtain ⟨q, hq, rfl, HQ, hBq⟩ := hrel
            by_cases hq64 : q < 64
            · have d64 : decide ((q : Int) < 64) = true := decide_eq_true (by omega)
              obtain ⟨dx, hdx⟩ : ∃ dx : Int, dx = ((q % 8 : Nat) : Int) := ⟨_, rfl⟩
              obtain ⟨dy, hdy⟩ : ∃ dy : Int, dy = ((q / 8 : Nat) : Int) := ⟨_, rfl⟩
              have e1 : Int.tmod (q : Int) 8 = dx := by rw [Int.tmod_eq_emod_of_nonneg (by omega)]; omega
              have e2 : Int.tdiv (q : Int) 8 = dy := by rw [Int.tdiv_eq_ediv_of_nonneg (by omega)]; omega
              have hx7 : 0 ≤ dx ∧ dx ≤ 7 := by omega
              have hy7 : 0 ≤ dy ∧ dy ≤ 7 := by omega
              have e3 : (q : Int) % 8 = dx := by omega
              have e4 : (q : Int) / 8 = dy := by omega
              have HX := Lib.hid hdx
              have HY := Lib.hid hdy
              have HBq := Lib.hid hBq
              clear hdx hdy hBq
              obtain ⟨wi, rfl⟩ : ∃ wi : World, wi = wr := ⟨_, rfl⟩
              go_wp2_with fail
              go_loopw [8, 9, 10] (fun n o i wr => ∃ j : Nat, j ≤ n7 ∧ i = .int .i64 j ∧ n = .int .i64 (sumW a b m l ((moveL own dx dy).take j)) ∧ o = .bool (fitsTo own dx dy j) ∧ Below wi.heap.size wi wr) (fun _ _ i _ => n7 - (intOf i).toNat)
              case atStart => exact ⟨0, by omega, rfl, by simp [sumW], by simp [fitsTo], Below.refl _ _⟩
              case round =>
                obtain ⟨j, hj, rfl, rfl, rfl, hB⟩ := hrel
                have hbo := HBq.out.trans (hB.mono HBq.out.size)
                have e7 := (hbo.cell (p := ⟨b7, off7 + t, none⟩) hb7).trans E7.out
                have P := PN.out.bel hbo
                obtain ⟨sj, hsj⟩ : ∃ sj, sj = sumW a b m l ((moveL own dx dy).take j) := ⟨_, rfl⟩
                have hsr := sumW_rng a b m l ((moveL own dx dy).take j)
                have htl : ((moveL own dx dy).take j).length ≤ 5 := by rw [List.length_take]; omega
                rw [← hsj] at hsr ⊢
                have hsr2 : 0 ≤ sj ∧ sj ≤ 100 := by omega
                by_cases hjn : j < n7
                · obtain ⟨b8, off8, x, y, rfl, hb8, hv8, _, _, _, k0, k1⟩ := (HR7.out.below hbo).at_ (k := j) (by have := HN7.out; omega)
                  have hok8 := cellOk_iff.1 (HO.out.ok _ (List.mem_of_getElem? hv8))
                  dsimp only at hok8
                  have hw0 : IntKind.i64.wrap (x + dx) = x + dx := IntWalk.i64_in _ (by omega)
                  have hw1 : IntKind.i64.wrap (y + dy) = y + dy := IntWalk.i64_in _ (by omega)
                  have hwd : IntKind.i64.wrap dy = dy := IntWalk.i64_in _ (by omega)
                  have Hss := Lib.hid (show sumW a b m l ((moveL own dx dy).take (j + 1)) = sj + weightAt a b m l (x + dx) (y + dy) by rw [take_snoc_at (moveL_get hv8 dx dy), sumW_snoc, ← hsj])
                  have Hff := Lib.hid (fitsTo_succ hv8 dx dy)
                  have hwa := weightAt_rng a b m l (x + dx) (y + dy)
                  obtain ⟨v, hv⟩ : ∃ v, v = weightAt a b m l (x + dx) (y + dy) := ⟨_, rfl⟩
                  rw [← hv] at hwa Hss
                  have HV2 := Lib.hid hv
                  have HBB := Lib.hid hB
                  have Pc := P.c4
                  have HO2 := Lib.hid hbo
                  clear hv8 hsj hsr htl hv hbo hB
                  go_wp2_with fail
                  go_region_held3 (fun w' => w'.cell? ⟨b7, off7 + t, none⟩ = some (.slice (some ⟨b8, off8, none⟩) n7 c7) ∧ w'.cell? ⟨b8, off8 + j * 2, none⟩ = some (.int .i64 x) ∧ w'.cell? ⟨b8, off8 + j * 2 + 1, none⟩ = some (.int .i64 y)) (go_keep) (first | fail)
                  have Q := (Blk.new wr 49 [.int .i64 (x + dx), .int .i64 (y + dy)]).drew
                  have P2 := (P.alloc (.cells #[.int .i64 (x + dx), .int .i64 (y + dy)] 49)).drew
                  have hB := bl_drew (bl_alloc HBB.out (.cells #[.int .i64 (x + dx), .int .i64 (y + dy)] 49))
                  clear P Pc
                  obtain ⟨W1, hW1⟩ : ∃ W1 : World, W1 = (wr.alloc (.cells #[.int .i64 (x + dx), .int .i64 (y + dy)] 49)).drew := ⟨_, rfl⟩
                  rw [← hW1] at Q P2 hB ⊢
                  clear hW1 e7 k0 k1
                  have Qc := Q.c2
                  have P := P2
                  have Pc := P2.c4
                  clear P2
                  have HRW := Lib.hid (show ∀ W, Below wi.heap.size wi W → RdI W A l from fun W hW => hr'.out.below ((HSame.out.trans (HBq.out.mono hwz)).trans (hW.mono (HSame.out.trans (HBq.out.mono hwz)).size)))
                  cases hf : fitsTo own dx dy j
                  · have Hff2 := Lib.hid (show fitsTo own dx dy (j + 1) = false by rw [Hff.out, hf]; rfl)
                    clear hf
                    go_wp2_with (first | (go_at_call 89; refine (CellOk_s _ _ _).mono ?_; rintro e wn ⟨rfl, hbn⟩; have hSz := bl_sz (bl_trans hB (by go_grown)) hbn; replace hB := bl_trans (bl_trans hB (by go_grown)) hbn; replace P := P.bel (bl_trans (by go_grown) hbn); replace Pc := P.c4; replace Q := Q.bel (bl_trans (by go_grown) hbn); replace Qc := Q.c2; clear hbn) | (go_at_call 40; refine (WeightAt_s a b m A c l _ _ _ hl (HRW.out _ (bl_trans hB (by go_grown)))).mono ?_; rintro e wn ⟨rfl, hbn⟩; have hSz := bl_sz (bl_trans hB (by go_grown)) hbn; replace hB := bl_trans (bl_trans hB (by go_grown)) hbn; replace P := P.bel (bl_trans (by go_grown) hbn); replace Pc := P.c4; replace Q := Q.bel (bl_trans (by go_grown) hbn); replace Qc := Q.c2; rw [← HV2.out]; clear hbn))
                    go_roundw
                    case rel => exact ⟨j + 1, by omega, by go_num, by rw [Hss.out], by rw [Hff2.out], hB⟩
                    case measure => simp [intOf]; omega
                  · have Hff2 := Lib.hid (show fitsTo own dx dy (j + 1) = cellOk (x + dx) (y + dy) by rw [Hff.out, hf]; rfl)
                    clear hf
                    go_wp2_with (first | (go_at_call 89; refine (CellOk_s _ _ _).mono ?_; rintro e wn ⟨rfl, hbn⟩; have hSz := bl_sz (bl_trans hB (by go_grown)) hbn; replace hB := bl_trans (bl_trans hB (by go_grown)) hbn; replace P := P.bel (bl_trans (by go_grown) hbn); replace Pc := P.c4; replace Q := Q.bel (bl_trans (by go_grown) hbn); replace Qc := Q.c2; rw [← Hff2.out]; clear hbn) | (go_at_call 40; refine (WeightAt_s a b m A c l _ _ _ hl (HRW.out _ (bl_trans hB (by go_grown)))).mono ?_; rintro e wn ⟨rfl, hbn⟩; have hSz := bl_sz (bl_trans hB (by go_grown)) hbn; replace hB := bl_trans (bl_trans hB (by go_grown)) hbn; replace P := P.bel (bl_trans (by go_grown) hbn); replace Pc := P.c4; replace Q := Q.bel (bl_trans (by go_grown) hbn); replace Qc := Q.c2; rw [← HV2.out]; clear hbn))
                    go_roundw
                    case rel => exact ⟨j + 1, by omega, by go_num, by rw [Hss.out], rfl, hB⟩
                    case measure => simp [intOf]; omega
                · obtain rfl : j = n7 := by omega
                  have htk : (moveL own dx dy).take j = moveL own dx dy := List.take_of_length_le (by rw [moveL_len]; have := HN7.out; omega)
                  rw [htk] at hsj
                  have hfl := fitsTo_all own dx dy HN7.out
                  obtain ⟨r, hr⟩ : ∃ r, r = sumW a b m l (moveL own dx dy) % m := ⟨_, rfl⟩
                  have e5 : sj % m = r := by rw [hsj, hr]
                  have e6 : Int.tmod sj m = r := by rw [Int.tmod_eq_emod_of_nonneg (by omega), e5]
                  have HBB := Lib.hid hB
                  have Pc := P.c4
                  cases hf : fitsL own dx dy
                  · have HQ2 := Lib.hid (all_snoc_lt HQ.out (okAt_no (a := a) (b := b) (m := m) (l := l) HX.out HY.out hf))
                    rw [hfl, hf]
                    clear hf hfl hsj hr htk hbo hB
                    go_wp2_with fail
                    go_roundw
                    case rel => exact ⟨q + 1, by omega, by go_num, HQ2, HBq.out.trans (HBB.out.mono HBq.out.size)⟩
                    case measure => simp [intOf]; omega
                  · have hok : okAt a b m l own q = (r == 0) := by rw [hr]; exact okAt_yes HX.out HY.out hf
                    rw [hfl, hf]
                    cases hz : (r == 0)
                    · have HBad := Lib.hid (neutR_bad HV.out hq64 (hok.trans hz))
                      have hz1 : (r != 0) = true := by simp [bne, hz]
                      clear hok hf hfl hsj hr htk hbo hB
                      go_wp2_with fail
                      go_ret
                      exact ⟨ret_bool HBad.out.symm, HSame.out.trans ((HBq.out.trans (HBB.out.mono HBq.out.size)).mono hwz)⟩
                    · have HQ2 := Lib.hid (all_snoc_lt HQ.out (hok.trans hz))
                      have hz1 : (r != 0) = false := by simp [bne, hz]
                      clear hok hf hfl hsj hr htk hbo hB
                      go_wp2_with fail
                      go_roundw
                      case rel => exact ⟨q + 1, by omega, by go_num, HQ2, HBq.out.trans (HBB.out.mono HBq.out.size)⟩
                      case measure => simp [intOf]; omega
            · obtain rfl : q = 64 := by omega
              have HA2 := Lib.hid (all_take_snoc HA.out HV.out HQ.out)
              go_wp2_with fail
              go_roundw
              case rel => exact ⟨t + 1, by omega, by go_num, HA2, bl_trans HBn.out hBq⟩
              case measure => simp [intOf]; omega
        · have HY := Lib.hid (neutR_yes H1.out H2.out (by have h := HA.out; rwa [List.take_of_length_le (by have := HM.out; omega)] at h))
          go_wp2_with fail
          go_ret
          exact ⟨ret_bool HY.out.symm, HBt.out.trans (hBn.mono HBt.out.size)⟩
def proofR (a b m : Int) (l rs : List Int) (s : List Cl) : Bool := neutR a b m l s && weightOf a b m l rs != 0
theorem proofR_no {a b m : Int} {l : List Int} {s : List Cl} (rs : List Int) (h : neutR a b m l s = false) : proofR a b m l rs s = false := by simp [proofR, h]
theorem proofR_yes {a b m : Int} {l : List Int} {s : List Cl} (rs : List Int) (h : neutR a b m l s = true) : proofR a b m l rs s = (weightOf a b m l rs != 0) := by simp [proofR, h]
set_option maxHeartbeats 2000000 in
theorem IsProof_i (a b m : Int) (A : Option Addr) (c : Nat) (l : List Int) (C : Option Addr) (e0 : Nat) (rs : List Int) (B : Option Addr) (N d : Nat) (s : List Cl) (w : World) (hl : l.length ≤ 1048576) (hr : RdI w A l) (hl3 : rs.length ≤ 1048576) (hq : RdI w C rs) (hN : N = s.length) (hl2 : N ≤ 1048576) (hs : RdC w B s) :
    Calls Try.prog 22 #[.agg #[.int .i64 a, .int .i64 b, .int .i64 m, .slice A l.length c], .agg #[.slice C rs.length e0], .slice B N d] w fun e w' => e = .returned (.bool (proofR a b m l rs s)) ∧ Below w.heap.size w w' := by
  (have hB := Below.refl w.heap.size w; have P := (Blk.new w 32 [.int .i64 a, .int .i64 b, .int .i64 m, .slice A l.length c]).alloc (.cells #[.slice C rs.length e0] 34); have Pc := P.c4; have Q := Blk.new2 w (.cells #[.int .i64 a, .int .i64 b, .int .i64 m, .slice A l.length c] 32) 34 [.slice C rs.length e0]; have Qc := Q.c1)
  have hr' := Lib.hid hr
  have hs' := Lib.hid hs
  have hq' := Lib.hid hq
  have HN := Lib.hid hN
  clear hr hs hN hq
  cases h1 : neutR a b m l s
  · have H := Lib.hid (proofR_no rs h1)
    have H1 := Lib.hid h1
    clear h1
    go_enter Try.func22, Try.ntmps22
    go_wp2_with (go_at_call 33; refine (IsNeutral_i a b m A c l B N d s _ hl (hr'.out.below (bl_trans hB (by go_grown))) HN.out hl2 (hs'.out.below (bl_trans hB (by go_grown)))).mono ?_; rintro e wn ⟨rfl, hbn⟩; have hSz := bl_sz (bl_trans hB (by go_grown)) hbn; replace hB := bl_trans (bl_trans hB (by go_grown)) hbn; replace P := P.bel (bl_trans (by go_grown) hbn); replace Pc := P.c4; replace Q := Q.bel (bl_trans (by go_grown) hbn); replace Qc := Q.c1; rw [H1.out]; clear hbn)
    go_ret
    exact ⟨ret_bool H.out.symm, (by first | (go_grown; done) | exact bl_trans hB (by go_grown))⟩
  · have H1 := Lib.hid h1
    obtain ⟨v, hv⟩ : ∃ v, v = weightOf a b m l rs := ⟨_, rfl⟩
    have H := Lib.hid (show proofR a b m l rs s = (v != 0) by rw [hv]; exact proofR_yes rs h1)
    have HV := Lib.hid hv
    clear h1 hv
    go_enter Try.func22, Try.ntmps22
    go_wp2_with (first | (go_at_call 33; refine (IsNeutral_i a b m A c l B N d s _ hl (hr'.out.below (bl_trans hB (by go_grown))) HN.out hl2 (hs'.out.below (bl_trans hB (by go_grown)))).mono ?_; rintro e wn ⟨rfl, hbn⟩; have hSz := bl_sz (bl_trans hB (by go_grown)) hbn; replace hB := bl_trans (bl_trans hB (by go_grown)) hbn; replace P := P.bel (bl_trans (by go_grown) hbn); replace Pc := P.c4; replace Q := Q.bel (bl_trans (by go_grown) hbn); replace Qc := Q.c1; rw [H1.out]; clear hbn) | (go_at_call 35; refine (WeightOf_i a b m A c l C e0 rs _ hl hl3 (hr'.out.below (bl_trans hB (by go_grown))) (hq'.out.below (bl_trans hB (by go_grown)))).mono ?_; rintro e wn ⟨rfl, hbn⟩; have hSz := bl_sz (bl_trans hB (by go_grown)) hbn; replace hB := bl_trans (bl_trans hB (by go_grown)) hbn; replace P := P.bel (bl_trans (by go_grown) hbn); replace Pc := P.c4; replace Q := Q.bel (bl_trans (by go_grown) hbn); replace Qc := Q.c1; rw [← HV.out]; clear hbn))
    go_ret
    exact ⟨ret_bool H.out.symm, (by first | (go_grown; done) | exact bl_trans hB (by go_grown))⟩
set_option maxHeartbeats 2000000 in
theorem IsProof_s (a b m : Int) (A : Option Addr) (c : Nat) (l : List Int) (C : Option Addr) (e0 : Nat) (rs : List Int) (B : Option Addr) (N d : Nat) (s : List Cl) (w : World) (hl : l.length ≤ 1048576) (hr : RdI w A l) (hl3 : rs.length ≤ 1048576) (hq : RdI w C rs) (hN : N = s.length) (hl2 : N ≤ 1048576) (hs : RdC w B s) :
    Calls Try.prog 18 #[.agg #[.int .i64 a, .int .i64 b, .int .i64 m, .slice A l.length c], .agg #[.slice C rs.length e0], .slice B N d] w fun e w' => e = .returned (.bool (proofR a b m l rs s)) ∧ Below w.heap.size w w' := by
  (have hB := Below.refl w.heap.size w; have P := (Blk.new w 32 [.int .i64 a, .int .i64 b, .int .i64 m, .slice A l.length c]).alloc (.cells #[.slice C rs.length e0] 34); have Pc := P.c4; have Q := Blk.new2 w (.cells #[.int .i64 a, .int .i64 b, .int .i64 m, .slice A l.length c] 32) 34 [.slice C rs.length e0]; have Qc := Q.c1)
  have hr' := Lib.hid hr
  have hs' := Lib.hid hs
  have hq' := Lib.hid hq
  have HN := Lib.hid hN
  clear hr hs hN hq
  cases h1 : neutR a b m l s
  · have H := Lib.hid (proofR_no rs h1)
    have H1 := Lib.hid h1
    clear h1
    go_enter Try.func18, Try.ntmps18
    go_wp2_with (go_at_call 62; refine (IsNeutral_s a b m A c l B N d s _ hl (hr'.out.below (bl_trans hB (by go_grown))) HN.out hl2 (hs'.out.below (bl_trans hB (by go_grown)))).mono ?_; rintro e wn ⟨rfl, hbn⟩; have hSz := bl_sz (bl_trans hB (by go_grown)) hbn; replace hB := bl_trans (bl_trans hB (by go_grown)) hbn; replace P := P.bel (bl_trans (by go_grown) hbn); replace Pc := P.c4; replace Q := Q.bel (bl_trans (by go_grown) hbn); replace Qc := Q.c1; rw [H1.out]; clear hbn)
    go_ret
    exact ⟨ret_bool H.out.symm, (by first | (go_grown; done) | exact bl_trans hB (by go_grown))⟩
  · have H1 := Lib.hid h1
    obtain ⟨v, hv⟩ : ∃ v, v = weightOf a b m l rs := ⟨_, rfl⟩
    have H := Lib.hid (show proofR a b m l rs s = (v != 0) by rw [hv]; exact proofR_yes rs h1)
    have HV := Lib.hid hv
    clear h1 hv
    go_enter Try.func18, Try.ntmps18
    go_wp2_with (first | (go_at_call 62; refine (IsNeutral_s a b m A c l B N d s _ hl (hr'.out.below (bl_trans hB (by go_grown))) HN.out hl2 (hs'.out.below (bl_trans hB (by go_grown)))).mono ?_; rintro e wn ⟨rfl, hbn⟩; have hSz := bl_sz (bl_trans hB (by go_grown)) hbn; replace hB := bl_trans (bl_trans hB (by go_grown)) hbn; replace P := P.bel (bl_trans (by go_grown) hbn); replace Pc := P.c4; replace Q := Q.bel (bl_trans (by go_grown) hbn); replace Qc := Q.c1; rw [H1.out]; clear hbn) | (go_at_call 50; refine (WeightOf_s a b m A c l C e0 rs _ hl hl3 (hr'.out.below (bl_trans hB (by go_grown))) (hq'.out.below (bl_trans hB (by go_grown)))).mono ?_; rintro e wn ⟨rfl, hbn⟩; have hSz := bl_sz (bl_trans hB (by go_grown)) hbn; replace hB := bl_trans (bl_trans hB (by go_grown)) hbn; replace P := P.bel (bl_trans (by go_grown) hbn); replace Pc := P.c4; replace Q := Q.bel (bl_trans (by go_grown) hbn); replace Qc := Q.c1; rw [← HV.out]; clear hbn))
    go_ret
    exact ⟨ret_bool H.out.symm, (by first | (go_grown; done) | exact bl_trans hB (by go_grown))⟩
end Go.Proofs.Ythclolooidnniaa

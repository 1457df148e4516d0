/-
  Contracts of the functions that move a shape and weigh its turns (shifted, IsSymmetricShape, IsNeutral, IsProof): what each returns, as a function of its arguments; nothing that was there is written; at most 1048576 cells.
-/
import Derived.Test.YtdcjhfmkkcakhaaTurnW
import Derived.Test.YtdcjhfmkkcakhaaWeigh
import Derived.Test.YtdcjhfmkkcakhaaRow
namespace Go.Proofs.Ytdcjhfmkkcakhaa
open Go.ChangeShapes Go.WideShapes Go.ChangeAt Go.RowKit Go.Deep
set_option linter.unusedVariables false

def moveL (l : List Cl) (dx dy : Int) : List Cl := l.map fun c => (c.1 + dx, c.2 + dy)
def fitsL (l : List Cl) (dx dy : Int) : Bool := (moveL l dx dy).all fun c => cellOk c.1 c.2
theorem moveL_len (l : List Cl) (dx dy : Int) : (moveL l dx dy).length = l.length := by simp [moveL]
theorem moveL_get {l : List Cl} {k : Nat} {x y : Int} (h : l[k]? = some (x, y)) (dx dy : Int) : (moveL l dx dy)[k]? = some (x + dx, y + dy) := by simp [moveL, h]
theorem fitsL_at {l : List Cl} {k : Nat} {x y dx dy : Int} (h : l[k]? = some (x, y)) (hf : cellOk (x + dx) (y + dy) = false) : fitsL l dx dy = false := by
  unfold fitsL
  rw [List.all_eq_false]
  exact ⟨(x + dx, y + dy), List.mem_of_getElem? (moveL_get h dx dy), by dsimp only; rw [hf]; simp⟩
theorem fitsL_iff {l : List Cl} {dx dy : Int} : fitsL l dx dy = true ↔ ∀ c ∈ moveL l dx dy, cellOk c.1 c.2 = true := by unfold fitsL; rw [List.all_eq_true]
theorem moveL_strict {l : List Cl} (h : Strict l) {dx dy : Int} (hf : fitsL l dx dy = true) : Strict (moveL l dx dy) := by
  refine ⟨fitsL_iff.1 hf, ?_⟩
  have ha := h.asc
  have hok := fitsL_iff.1 hf
  unfold moveL at hok ⊢
  rw [List.pairwise_map] at ha
  rw [List.pairwise_map, List.pairwise_map]
  refine List.Pairwise.imp_of_mem (fun {a b} hma hmb hab => ?_) ha
  have h1 := cellOk_iff.1 (h.ok a hma)
  have h2 := cellOk_iff.1 (h.ok b hmb)
  have h3 := cellOk_iff.1 (hok _ (List.mem_map.2 ⟨a, hma, rfl⟩))
  have h4 := cellOk_iff.1 (hok _ (List.mem_map.2 ⟨b, hmb, rfl⟩))
  dsimp only at h3 h4
  unfold idxN at hab ⊢
  dsimp only
  omega
def symR (l : List Cl) : Bool := shapeOk l && decide ((turnsR l).length < 8)
theorem symR_eq {l : List Cl} (h : shapeOk l = true) : symR l = decide (((turnsR l).length : Int) < 8) := by
  unfold symR; rw [h, Bool.true_and]; congr 1; exact propext ⟨fun h => by omega, fun h => by omega⟩
theorem IsSymmetricShape_i (A : Option Addr) (N c : Nat) (l : List Cl) (w : World) (hN : N = l.length) (hl : N ≤ 1048576) (hr : RdC w A l) :
    Calls Try.prog 74 #[.slice A N c] w fun e w' => e = .returned (.bool (symR l)) ∧ Below w.heap.size w w' := by
  have HN := Lib.hid hN
  have hr' := Lib.hid hr
  have hB := Below.refl w.heap.size w
  cases c1 : shapeOk l
  · have hv := Lib.hid (show symR l = false by unfold symR; rw [c1]; rfl)
    have C1 := Lib.hid c1
    clear hN hr c1
    go_enter Try.func74, Try.ntmps74
    go_wp2_with (go_at_call 71; refine (ShapeOk_i A N c l _ HN.out hl (hr'.out.below hB)).mono ?_; rintro e wn ⟨rfl, hbn⟩; have hSz := bl_sz (bl_trans hB (by go_grown)) hbn; replace hB := bl_trans (bl_trans hB (by go_grown)) hbn; rw [C1.out]; clear hbn)
    go_ret
    exact ⟨ret_bool hv.out.symm, hB⟩
  · have hv := Lib.hid (symR_eq c1)
    have C1 := Lib.hid c1
    clear hN hr c1
    go_enter Try.func74, Try.ntmps74
    go_wp2_with (first | (go_at_call 71; refine (ShapeOk_i A N c l _ HN.out hl (hr'.out.below hB)).mono ?_; rintro e wn ⟨rfl, hbn⟩; have hSz := bl_sz (bl_trans hB (by go_grown)) hbn; replace hB := bl_trans (bl_trans hB (by go_grown)) hbn; rw [C1.out]; clear hbn) | (go_at_call 70; refine (TurnsOfShape_i A N c l _ HN.out hl (hr'.out.below hB)).mono ?_; rintro e wn ⟨v9, rfl, o9, hbn⟩; have hSz := bl_sz (bl_trans hB (by go_grown)) hbn; replace hB := bl_trans (bl_trans hB (by go_grown)) hbn; obtain ⟨A9, c9, rfl⟩ := o9.form; clear hbn))
    go_ret
    exact ⟨ret_bool hv.out.symm, hB⟩
def shBits (l : List Cl) (dx dy : Int) : Nat := if fitsL l dx dy then setL (moveL l dx dy) else 0
theorem shBits_no {l : List Cl} {dx dy : Int} (h : fitsL l dx dy = false) : shBits l dx dy = 0 := by unfold shBits; rw [h]; rfl
theorem shBits_yes {l : List Cl} {dx dy : Int} (h : fitsL l dx dy = true) : shBits l dx dy = setL (moveL l dx dy) := by unfold shBits; rw [h]; rfl
theorem shifted_any (A : Option Addr) (N c : Nat) (l : List Cl) (dx dy : Int) (w : World) (hN : N = l.length) (hl : N ≤ 1048576) (hr : RdC w A l) (hok : Box l) (hx : -100 ≤ dx ∧ dx ≤ 100) (hy : -100 ≤ dy ∧ dy ≤ 100) :
    Calls Try.prog 91 #[.slice A N c, .int .i64 dx, .int .i64 dy] w fun e w' => e = .returned (.tuple #[.int .u64 (shBits l dx dy : Int), .bool (fitsL l dx dy)]) ∧ Below w.heap.size w w' := by
  have HN := Lib.hid hN
  have hr' := Lib.hid hr
  have Hok := Lib.hid hok
  clear hN hr hok
  have hz : ∀ c ∈ l, (-7 ≤ c.1 ∧ c.1 ≤ 7) ∧ -7 ≤ c.2 ∧ c.2 ≤ 7 := fun c hc => by have := cellOk_iff.1 (Hok.out c hc); omega
  have Hz := Lib.hid hz
  clear hz
  go_enter Try.func91, Try.ntmps91
  go_wp2_with fail
  go_loopw [8, 14] (fun s i wr => ∃ k : Nat, k ≤ N ∧ i = .int .i64 k ∧ s = .int .u64 (setL ((moveL l dx dy).take k) : Int) ∧ Hid (∀ c ∈ (moveL l dx dy).take k, cellOk c.1 c.2 = true) ∧ Below w.heap.size w wr) (fun _ i _ => N - (intOf i).toNat)
  case atStart => exact ⟨0, by omega, rfl, rfl, Lib.hid (by simp), Below.refl _ _⟩
  case round =>
    obtain ⟨k, hk, rfl, rfl, HA, hB⟩ := hrel
    by_cases hlt : k < N
    · obtain ⟨b', off, x, y, rfl, hbl, hv, hd, _, _, hc0, hc1⟩ := (hr'.out.below hB).at_ (k := k) (by have := HN.out; omega)
      have hzz := Hz.out _ (List.mem_of_getElem? hv)
      dsimp only at hzz
      have hw0 : IntKind.i64.wrap (x + dx) = x + dx := IntWalk.i64_in _ (by omega)
      have hw1 : IntKind.i64.wrap (y + dy) = y + dy := IntWalk.i64_in _ (by omega)
      have hm := moveL_get hv dx dy
      have P := (Blk.new wr 35 [.int .i64 x, .int .i64 y]).alloc (.cells #[.int .i64 (x + dx), .int .i64 (y + dy)] 35)
      have Pc := P.c2
      have Q := Blk.new2 wr (.cells #[.int .i64 x, .int .i64 y] 35) 35 [.int .i64 (x + dx), .int .i64 (y + dy)]
      have Qc := Q.c2
      cases c1 : cellOk (x + dx) (y + dy)
      · have C1 := Lib.hid c1
        have hF := Lib.hid (fitsL_at hv c1)
        clear hm hv hd c1
        go_wp2_with (go_at_call 102; refine (CellOk_i _ _ _).mono ?_; rintro e wn ⟨rfl, hbn⟩; have hSz := bl_sz (bl_trans hB (by go_grown)) hbn; replace hB := bl_trans (bl_trans hB (by go_grown)) hbn; rw [C1.out]; clear hbn)
        go_ret2
        exact ⟨by rw [hF.out, shBits_no hF.out]; rfl, hB⟩
      · have C1 := Lib.hid c1
        have hsl : setL ((moveL l dx dy).take k) < 18446744073709551616 := setL_lt HA.out
        have hs' := Lib.hid (show setL ((moveL l dx dy).take (k + 1)) = setL ((moveL l dx dy).take k) ||| nthBit (x + dx) (y + dy) by rw [take_snoc_at hm, setL_snoc])
        have HA2 := Lib.hid (show ∀ c ∈ (moveL l dx dy).take (k + 1), cellOk c.1 c.2 = true from fun c hc => by
          rw [take_snoc_at hm] at hc
          rcases List.mem_append.1 hc with hc | hc
          · exact HA.out c hc
          · simp at hc; rw [hc]; exact c1)
        clear hm hv hd c1
        go_wp2_with (first | (go_at_call 102; refine (CellOk_i _ _ _).mono ?_; rintro e wn ⟨rfl, hbn⟩; have hSz := bl_sz (bl_trans hB (by go_grown)) hbn; replace hB := bl_trans (bl_trans hB (by go_grown)) hbn; replace P := P.bel (bl_trans (by go_grown) hbn); replace Pc := P.c2; replace Q := Q.bel (bl_trans (by go_grown) hbn); replace Qc := Q.c2; rw [C1.out]; clear hbn) | (go_at_call 178; refine (with_any _ _ _ _ hsl C1.out).mono ?_; rintro e wn ⟨rfl, hbn⟩; have hSz := bl_sz (bl_trans hB (by go_grown)) hbn; replace hB := bl_trans (bl_trans hB (by go_grown)) hbn; clear hbn))
        go_roundw
        case rel => exact ⟨k + 1, by omega, by go_num, by rw [hs'.out], HA2, hB⟩
        case measure => simp [intOf]; omega
    · obtain rfl : k = N := by omega
      have ht : (moveL l dx dy).take k = moveL l dx dy := List.take_of_length_le (by rw [moveL_len]; have := HN.out; omega)
      have hF := Lib.hid (show fitsL l dx dy = true from fitsL_iff.2 (by rw [← ht]; exact HA.out))
      rw [ht]
      clear ht
      go_wp2_with fail
      go_ret2
      exact ⟨by rw [hF.out, shBits_yes hF.out]; rfl, hB⟩
def okAt (a b m : Int) (l : List Int) (own : List Cl) (i : Nat) : Bool := !(fitsL own ((i % 8 : Nat) : Int) ((i / 8 : Nat) : Int)) || ((sumW a b m l (moveL own ((i % 8 : Nat) : Int) ((i / 8 : Nat) : Int))) % m == 0)
def neutR (a b m : Int) (l : List Int) (s : List Cl) : Bool := patOk a b m l && shapeOk s && (turnsR s).all fun own => (List.range 64).all (okAt a b m l own)
theorem neutR_no1 {a b m : Int} {l : List Int} (s : List Cl) (h : patOk a b m l = false) : neutR a b m l s = false := by simp [neutR, h]
theorem neutR_no2 (a b m : Int) (l : List Int) {s : List Cl} (h : shapeOk s = false) : neutR a b m l s = false := by simp [neutR, h]
theorem neutR_bad {a b m : Int} {l : List Int} {s own : List Cl} {t i : Nat} (h : (turnsR s)[t]? = some own) (hi : i < 64) (hb : okAt a b m l own i = false) : neutR a b m l s = false := by
  unfold neutR
  rw [Bool.and_eq_false_iff, List.all_eq_false]
  refine .inr ⟨own, List.mem_of_getElem? h, ?_⟩
  rw [Bool.not_eq_true, List.all_eq_false]
  exact ⟨i, List.mem_range.2 hi, by rw [hb]; simp⟩
theorem neutR_yes {a b m : Int} {l : List Int} {s : List Cl} (h1 : patOk a b m l = true) (h2 : shapeOk s = true) (h : ∀ own ∈ turnsR s, ∀ i < 64, okAt a b m l own i = true) : neutR a b m l s = true := by
  unfold neutR
  rw [h1, h2, Bool.true_and, Bool.true_and, List.all_eq_true]
  intro own ho
  rw [List.all_eq_true]
  exact fun i hi => h own ho i (List.mem_range.1 hi)
theorem okAt_no {a b m : Int} {l : List Int} {own : List Cl} {i : Nat} {dx dy : Int} (hx : dx = ((i % 8 : Nat) : Int)) (hy : dy = ((i / 8 : Nat) : Int)) (h : fitsL own dx dy = false) : okAt a b m l own i = true := by
  subst hx; subst hy; unfold okAt; rw [h]; rfl
theorem okAt_yes {a b m : Int} {l : List Int} {own : List Cl} {i : Nat} {dx dy : Int} (hx : dx = ((i % 8 : Nat) : Int)) (hy : dy = ((i / 8 : Nat) : Int)) (h : fitsL own dx dy = true) : okAt a b m l own i = (sumW a b m l (moveL own dx dy) % m == 0) := by
  subst hx; subst hy; unfold okAt; rw [h]; rfl
theorem all_snoc_lt {p : Nat → Prop} {q : Nat} (h : ∀ j < q, p j) (hq : p q) : ∀ j < q + 1, p j := fun j hj => by
  by_cases e : j = q
  · subst e; exact hq
  · exact h j (by omega)
theorem all_take_snoc {α : Type} {p : α → Prop} {l : List α} {k : Nat} {x : α} (h : ∀ y ∈ l.take k, p y) (hx : l[k]? = some x) (hp : p x) : ∀ y ∈ l.take (k + 1), p y := fun y hy => by
  rw [take_snoc_at hx] at hy
  rcases List.mem_append.1 hy with hy | hy
  · exact h y hy
  · simp at hy; rw [hy]; exact hp
set_option maxRecDepth 100000 in
set_option maxHeartbeats 2000000 in
theorem IsNeutral_i (a b m : Int) (A : Option Addr) (c : Nat) (l : List Int) (B : Option Addr) (N d : Nat) (s : List Cl) (w : World) (hl : l.length ≤ 1048576) (hr : RdI w A l) (hN : N = s.length) (hl2 : N ≤ 1048576) (hs : RdC w B s) :
    Calls Try.prog 19 #[.agg #[.int .i64 a, .int .i64 b, .int .i64 m, .slice A l.length c], .slice B N d] w fun e w' => e = .returned (.bool (neutR a b m l s)) ∧ Below w.heap.size w w' := by
  (have hB := Below.refl w.heap.size w; have P := Blk.new w 26 [.int .i64 a, .int .i64 b, .int .i64 m, .slice A l.length c]; have Pc := P.c4)
  have hr' := Lib.hid hr
  have hs' := Lib.hid hs
  have HN := Lib.hid hN
  clear hr hs hN
  cases h1 : patOk a b m l
  · have H := Lib.hid (neutR_no1 s h1)
    have H1 := Lib.hid h1
    clear h1
    go_enter Try.func19, Try.ntmps19
    go_wp2_with (go_at_call 18; refine (PatternOk_i _ _ _ A c l _ hl (hr'.out.below (bl_trans hB (by go_grown)))).mono ?_; rintro e wn ⟨rfl, hbn⟩; have hSz := bl_sz (bl_trans hB (by go_grown)) hbn; replace hB := bl_trans (bl_trans hB (by go_grown)) hbn; replace P := P.bel (bl_trans (by go_grown) hbn); replace Pc := P.c4; rw [H1.out]; clear hbn)
    go_ret
    exact ⟨ret_bool H.out.symm, (by first | (go_grown; done) | exact bl_trans hB (by go_grown))⟩
  · cases h2 : shapeOk s
    · have H := Lib.hid (neutR_no2 a b m l h2)
      have H1 := Lib.hid h1
      have H2 := Lib.hid h2
      clear h1 h2
      go_enter Try.func19, Try.ntmps19
      go_wp2_with (first | (go_at_call 18; refine (PatternOk_i _ _ _ A c l _ hl (hr'.out.below (bl_trans hB (by go_grown)))).mono ?_; rintro e wn ⟨rfl, hbn⟩; have hSz := bl_sz (bl_trans hB (by go_grown)) hbn; replace hB := bl_trans (bl_trans hB (by go_grown)) hbn; replace P := P.bel (bl_trans (by go_grown) hbn); replace Pc := P.c4; rw [H1.out]; clear hbn) | (go_at_call 71; refine (ShapeOk_i B N d s _ HN.out hl2 (hs'.out.below (bl_trans hB (by go_grown)))).mono ?_; rintro e wn ⟨rfl, hbn⟩; have hSz := bl_sz (bl_trans hB (by go_grown)) hbn; replace hB := bl_trans (bl_trans hB (by go_grown)) hbn; replace P := P.bel (bl_trans (by go_grown) hbn); replace Pc := P.c4; rw [H2.out]; clear hbn))
      go_ret
      exact ⟨ret_bool H.out.symm, (by first | (go_grown; done) | exact bl_trans hB (by go_grown))⟩
    · have p1 := patOk_true h1
      have n1 : m ≠ 0 := by omega
      have H1 := Lib.hid h1
      have H2 := Lib.hid h2
      have hM8 := turnsR_len s
      obtain ⟨M, hM⟩ : ∃ M, M = (turnsR s).length := ⟨_, rfl⟩
      have HM := Lib.hid hM
      rw [← hM] at hM8
      clear h1 h2 hM p1
      go_enter Try.func19, Try.ntmps19
      go_wp2_with (first | (go_at_call 18; refine (PatternOk_i _ _ _ A c l _ hl (hr'.out.below (bl_trans hB (by go_grown)))).mono ?_; rintro e wn ⟨rfl, hbn⟩; have hSz := bl_sz (bl_trans hB (by go_grown)) hbn; replace hB := bl_trans (bl_trans hB (by go_grown)) hbn; replace P := P.bel (bl_trans (by go_grown) hbn); replace Pc := P.c4; rw [H1.out]; clear hbn) | (go_at_call 71; refine (ShapeOk_i B N d s _ HN.out hl2 (hs'.out.below (bl_trans hB (by go_grown)))).mono ?_; rintro e wn ⟨rfl, hbn⟩; have hSz := bl_sz (bl_trans hB (by go_grown)) hbn; replace hB := bl_trans (bl_trans hB (by go_grown)) hbn; replace P := P.bel (bl_trans (by go_grown) hbn); replace Pc := P.c4; rw [H2.out]; clear hbn) | (go_at_call 70; refine (TurnsOfShape_i B N d s _ HN.out hl2 (hs'.out.below (bl_trans hB (by go_grown)))).mono ?_; rintro e wt ⟨v9, rfl, o9, hbn⟩; have hSz := bl_sz (bl_trans hB (by go_grown)) hbn; replace hB := bl_trans (bl_trans hB (by go_grown)) hbn; replace P := P.bel (bl_trans (by go_grown) hbn); replace Pc := P.c4; obtain ⟨A9, c9, rfl⟩ := o9.form; rw [← HM.out] at o9 ⊢; have RT := Lib.hid (InCC.rd o9); clear o9; clear hbn))
      have PT := Lib.hid P
      have HBt := Lib.hid hB
      clear P Pc hB
      go_loopw [21] (fun i wr => ∃ t : Nat, t ≤ M ∧ i = .int .i64 t ∧ Hid (∀ own ∈ (turnsR s).take t, ∀ i < 64, okAt a b m l own i = true) ∧ Below wt.heap.size wt wr) (fun i _ => M - (intOf i).toNat)
      case atStart => exact ⟨0, by omega, rfl, Lib.hid (by simp), Below.refl _ _⟩
      case round =>
        obtain ⟨t, ht, rfl, HA, hBn⟩ := hrel
        by_cases hlt : t < M
        · obtain ⟨b7, off7, own, A7, c7, rfl, hb7, hv7, _, hro, e7⟩ := (RT.out.below hBn).at_ (k := t) (by have := HM.out; omega)
          have hst := turnsR_of (List.mem_of_getElem? hv7)
          obtain ⟨n7, hn7⟩ : ∃ n, n = own.length := ⟨_, rfl⟩
          have hn5 : n7 ≤ 5 := by omega
          rw [← hn7] at e7
          have HN7 := Lib.hid hn7
          have HO := Lib.hid hst.1
          have HR7 := Lib.hid hro
          have HV := Lib.hid hv7
          have HBn := Lib.hid hBn
          have PN := Lib.hid (PT.out.bel hBn)
          clear hv7 hst hn7 hro
          obtain ⟨wo, rfl⟩ : ∃ wo : World, wo = wr := ⟨_, rfl⟩
          go_wp2_with fail
          go_loopw [25] (fun i wr => ∃ q : Nat, q ≤ 64 ∧ i = .int .i64 q ∧ Hid (∀ j < q, okAt a b m l own j = true) ∧ Below wo.heap.size wo wr) (fun i _ => 64 - (intOf i).toNat)
          case atStart => exact ⟨0, by omega, rfl, Lib.hid (by intro j hj; omega), Below.refl _ _⟩
          case round =>
            obtain ⟨q, hq, rfl, HQ, hB⟩ := hrel
            by_cases hq64 : q < 64
            · have P := PN.out.bel hB
              have Pc := P.c4
              obtain ⟨dx, hdx⟩ : ∃ dx : Int, dx = ((q % 8 : Nat) : Int) := ⟨_, rfl⟩
              obtain ⟨dy, hdy⟩ : ∃ dy : Int, dy = ((q / 8 : Nat) : Int) := ⟨_, rfl⟩
              have e1 : Int.tmod (q : Int) 8 = dx := by rw [Int.tmod_eq_emod_of_nonneg (by omega)]; omega
              have e2 : Int.tdiv (q : Int) 8 = dy := by rw [Int.tdiv_eq_ediv_of_nonneg (by omega)]; omega
              have hx7 : 0 ≤ dx ∧ dx ≤ 7 := by omega
              have hy7 : 0 ≤ dy ∧ dy ≤ 7 := by omega
              have e3 : (q : Int) % 8 = dx := by omega
              have e4 : (q : Int) / 8 = dy := by omega
              have HX := Lib.hid hdx
              have HY := Lib.hid hdy
              clear hdx hdy
              have hsame : Below w.heap.size w wo := HBt.out.trans (HBn.out.mono HBt.out.size)
              have HSame := Lib.hid hsame
              have hwz := hsame.size
              clear hsame
              cases hf : fitsL own dx dy
              · have HS := Lib.hid (shBits_no hf)
                have HF := Lib.hid hf
                have HQ2 := Lib.hid (all_snoc_lt HQ.out (okAt_no (a := a) (b := b) (m := m) (l := l) HX.out HY.out hf))
                clear hf
                go_wp2_with (go_at_call 91; refine (shifted_any A7 n7 c7 own _ _ _ HN7.out (by omega) (HR7.out.below (bl_trans hB (by go_grown))) HO.out.ok (by omega) (by omega)).mono ?_; rintro e wn ⟨rfl, hbn⟩; have hSz := bl_sz (bl_trans hB (by go_grown)) hbn; replace hB := bl_trans (bl_trans hB (by go_grown)) hbn; replace P := P.bel (bl_trans (by go_grown) hbn); replace Pc := P.c4; rw [HF.out, HS.out]; clear hbn)
                (refine wp_region_quiet_bel (by kernel_rfl) (by kernel_rfl) ?_; (repeat (first | go_big_quiet_step (fail) | quiet_step (fail))); refine wpQuiet_nil ?_; intro wq hw0; obtain ⟨⟨_, hbq⟩, hw1⟩ := hw0; subst hw1; try dsimp only)
                go_wp2_with fail
                go_roundw
                case rel => exact ⟨q + 1, by omega, by go_num, HQ2, bl_trans hB hbq⟩
                case measure => simp [intOf]; omega
              · have HS := Lib.hid (shBits_yes hf)
                have HF := Lib.hid hf
                obtain ⟨bs, hbs⟩ : ∃ bs, bs = setL (moveL own dx dy) := ⟨_, rfl⟩
                have hb64 : bs < 18446744073709551616 := by rw [hbs]; exact setL_lt (fitsL_iff.1 hf)
                have HC := Lib.hid (show cellsBy bs.testBit 64 = moveL own dx dy by rw [hbs]; exact (moveL_strict HO.out hf).cells)
                rw [← hbs] at HS
                have hml : (moveL own dx dy).length ≤ 64 := by rw [moveL_len]; have := HN7.out; omega
                obtain ⟨r, hr⟩ : ∃ r, r = sumW a b m l (moveL own dx dy) % m := ⟨_, rfl⟩
                have HRR := Lib.hid hr
                have hok : okAt a b m l own q = (r == 0) := by rw [hr]; exact okAt_yes HX.out HY.out hf
                clear hbs hf hr
                cases hz : (r == 0)
                · have HBad := Lib.hid (neutR_bad HV.out hq64 (hok.trans hz))
                  have hz1 : (r != 0) = true := by simp [bne, hz]
                  clear hok
                  go_wp2_with (go_at_call 91; refine (shifted_any A7 n7 c7 own _ _ _ HN7.out (by omega) (HR7.out.below (bl_trans hB (by go_grown))) HO.out.ok (by omega) (by omega)).mono ?_; rintro e wn ⟨rfl, hbn⟩; have hSz := bl_sz (bl_trans hB (by go_grown)) hbn; replace hB := bl_trans (bl_trans hB (by go_grown)) hbn; replace P := P.bel (bl_trans (by go_grown) hbn); replace Pc := P.c4; rw [HF.out, HS.out]; clear hbn)
                  go_region_held3 (fun w' => (w'.cell? ⟨w.heap.size, 0, none⟩ = some (.int .i64 a) ∧ w'.cell? ⟨w.heap.size, 1, none⟩ = some (.int .i64 b) ∧ w'.cell? ⟨w.heap.size, 2, none⟩ = some (.int .i64 m) ∧ w'.cell? ⟨w.heap.size, 3, none⟩ = some (.slice A l.length c))) (go_keep)
                    (first | (go_at_call 93; refine (cells_any bs _ hb64).mono ?_; rintro e wn ⟨v1, rfl, o1, hbn⟩; have hSz := bl_sz (bl_trans hB (by go_grown)) hbn; replace hB := bl_trans (bl_trans hB (by go_grown)) hbn; replace P := P.bel (bl_trans (by go_grown) hbn); replace Pc := P.c4; rw [HC.out] at o1; obtain ⟨⟨A1, c1, rfl⟩, _⟩ := id o1; have R1 := Lib.hid o1.rd; clear o1; clear hbn) | (go_at_call 92; refine (weigh_any a b m A c l A1 c1 (moveL own dx dy) _ hl (hr'.out.below (HSame.out.trans ((bl_trans hB (by go_grown)).mono hwz))) hml (R1.out.below (by go_grown)) n1).mono ?_; rintro e wn ⟨rfl, hbn⟩; have hSz := bl_sz (bl_trans hB (by go_grown)) hbn; replace hB := bl_trans (bl_trans hB (by go_grown)) hbn; replace P := P.bel (bl_trans (by go_grown) hbn); replace Pc := P.c4; rw [← HRR.out]; clear hbn))
                  go_wp2_with fail
                  go_ret
                  exact ⟨ret_bool HBad.out.symm, HSame.out.trans (hB.mono hwz)⟩
                · have HQ2 := Lib.hid (all_snoc_lt HQ.out (hok.trans hz))
                  have hz1 : (r != 0) = false := by simp [bne, hz]
                  clear hok
                  go_wp2_with (go_at_call 91; refine (shifted_any A7 n7 c7 own _ _ _ HN7.out (by omega) (HR7.out.below (bl_trans hB (by go_grown))) HO.out.ok (by omega) (by omega)).mono ?_; rintro e wn ⟨rfl, hbn⟩; have hSz := bl_sz (bl_trans hB (by go_grown)) hbn; replace hB := bl_trans (bl_trans hB (by go_grown)) hbn; replace P := P.bel (bl_trans (by go_grown) hbn); replace Pc := P.c4; rw [HF.out, HS.out]; clear hbn)
                  go_region_held3 (fun w' => (w'.cell? ⟨w.heap.size, 0, none⟩ = some (.int .i64 a) ∧ w'.cell? ⟨w.heap.size, 1, none⟩ = some (.int .i64 b) ∧ w'.cell? ⟨w.heap.size, 2, none⟩ = some (.int .i64 m) ∧ w'.cell? ⟨w.heap.size, 3, none⟩ = some (.slice A l.length c))) (go_keep)
                    (first | (go_at_call 93; refine (cells_any bs _ hb64).mono ?_; rintro e wn ⟨v1, rfl, o1, hbn⟩; have hSz := bl_sz (bl_trans hB (by go_grown)) hbn; replace hB := bl_trans (bl_trans hB (by go_grown)) hbn; replace P := P.bel (bl_trans (by go_grown) hbn); replace Pc := P.c4; rw [HC.out] at o1; obtain ⟨⟨A1, c1, rfl⟩, _⟩ := id o1; have R1 := Lib.hid o1.rd; clear o1; clear hbn) | (go_at_call 92; refine (weigh_any a b m A c l A1 c1 (moveL own dx dy) _ hl (hr'.out.below (HSame.out.trans ((bl_trans hB (by go_grown)).mono hwz))) hml (R1.out.below (by go_grown)) n1).mono ?_; rintro e wn ⟨rfl, hbn⟩; have hSz := bl_sz (bl_trans hB (by go_grown)) hbn; replace hB := bl_trans (bl_trans hB (by go_grown)) hbn; replace P := P.bel (bl_trans (by go_grown) hbn); replace Pc := P.c4; rw [← HRR.out]; clear hbn))
                  go_wp2_with fail
                  go_roundw
                  case rel => exact ⟨q + 1, by omega, by go_num, HQ2, hB⟩
                  case measure => simp [intOf]; omega
            · obtain rfl : q = 64 := by omega
              have HA2 := Lib.hid (all_take_snoc HA.out HV.out HQ.out)
              go_wp2_with fail
              go_roundw
              case rel => exact ⟨t + 1, by omega, by go_num, HA2, bl_trans HBn.out hB⟩
              case measure => simp [intOf]; omega
        · have HY := Lib.hid (neutR_yes H1.out H2.out (by have h := HA.out; rwa [List.take_of_length_le (by have := HM.out; omega)] at h))
          go_wp2_with fail
          go_ret
          exact ⟨ret_bool HY.out.symm, HBt.out.trans (hBn.mono HBt.out.size)⟩
def proofR (a b m : Int) (l rs : List Int) (s : List Cl) : Bool := neutR a b m l s && weightOf a b m l rs != 0
theorem proofR_no {a b m : Int} {l : List Int} {s : List Cl} (rs : List Int) (h : neutR a b m l s = false) : proofR a b m l rs s = false := by simp [proofR, h]
theorem proofR_yes {a b m : Int} {l : List Int} {s : List Cl} (rs : List Int) (h : neutR a b m l s = true) : proofR a b m l rs s = (weightOf a b m l rs != 0) := by simp [proofR, h]
set_option maxHeartbeats 2000000 in
theorem IsProof_i (a b m : Int) (A : Option Addr) (c : Nat) (l : List Int) (C : Option Addr) (e0 : Nat) (rs : List Int) (B : Option Addr) (N d : Nat) (s : List Cl) (w : World) (hl : l.length ≤ 1048576) (hr : RdI w A l) (hl3 : rs.length ≤ 1048576) (hq : RdI w C rs) (hN : N = s.length) (hl2 : N ≤ 1048576) (hs : RdC w B s) :
    Calls Try.prog 20 #[.agg #[.int .i64 a, .int .i64 b, .int .i64 m, .slice A l.length c], .agg #[.slice C rs.length e0], .slice B N d] w fun e w' => e = .returned (.bool (proofR a b m l rs s)) ∧ Below w.heap.size w w' := by
  (have hB := Below.refl w.heap.size w; have P := (Blk.new w 26 [.int .i64 a, .int .i64 b, .int .i64 m, .slice A l.length c]).alloc (.cells #[.slice C rs.length e0] 31); have Pc := P.c4; have Q := Blk.new2 w (.cells #[.int .i64 a, .int .i64 b, .int .i64 m, .slice A l.length c] 26) 31 [.slice C rs.length e0]; have Qc := Q.c1)
  have hr' := Lib.hid hr
  have hs' := Lib.hid hs
  have hq' := Lib.hid hq
  have HN := Lib.hid hN
  clear hr hs hN hq
  cases h1 : neutR a b m l s
  · have H := Lib.hid (proofR_no rs h1)
    have H1 := Lib.hid h1
    clear h1
    go_enter Try.func20, Try.ntmps20
    go_wp2_with (go_at_call 19; refine (IsNeutral_i a b m A c l B N d s _ hl (hr'.out.below (bl_trans hB (by go_grown))) HN.out hl2 (hs'.out.below (bl_trans hB (by go_grown)))).mono ?_; rintro e wn ⟨rfl, hbn⟩; have hSz := bl_sz (bl_trans hB (by go_grown)) hbn; replace hB := bl_trans (bl_trans hB (by go_grown)) hbn; replace P := P.bel (bl_trans (by go_grown) hbn); replace Pc := P.c4; replace Q := Q.bel (bl_trans (by go_grown) hbn); replace Qc := Q.c1; rw [H1.out]; clear hbn)
    go_ret
    exact ⟨ret_bool H.out.symm, (by first | (go_grown; done) | exact bl_trans hB (by go_grown))⟩
  · have H1 := Lib.hid h1
    obtain ⟨v, hv⟩ : ∃ v, v = weightOf a b m l rs := ⟨_, rfl⟩
    have H := Lib.hid (show proofR a b m l rs s = (v != 0) by rw [hv]; exact proofR_yes rs h1)
    have HV := Lib.hid hv
    clear h1 hv
    go_enter Try.func20, Try.ntmps20
    go_wp2_with (first | (go_at_call 19; refine (IsNeutral_i a b m A c l B N d s _ hl (hr'.out.below (bl_trans hB (by go_grown))) HN.out hl2 (hs'.out.below (bl_trans hB (by go_grown)))).mono ?_; rintro e wn ⟨rfl, hbn⟩; have hSz := bl_sz (bl_trans hB (by go_grown)) hbn; replace hB := bl_trans (bl_trans hB (by go_grown)) hbn; replace P := P.bel (bl_trans (by go_grown) hbn); replace Pc := P.c4; replace Q := Q.bel (bl_trans (by go_grown) hbn); replace Qc := Q.c1; rw [H1.out]; clear hbn) | (go_at_call 22; refine (WeightOf_i a b m A c l C e0 rs _ hl hl3 (hr'.out.below (bl_trans hB (by go_grown))) (hq'.out.below (bl_trans hB (by go_grown)))).mono ?_; rintro e wn ⟨rfl, hbn⟩; have hSz := bl_sz (bl_trans hB (by go_grown)) hbn; replace hB := bl_trans (bl_trans hB (by go_grown)) hbn; replace P := P.bel (bl_trans (by go_grown) hbn); replace Pc := P.c4; replace Q := Q.bel (bl_trans (by go_grown) hbn); replace Qc := Q.c1; rw [← HV.out]; clear hbn))
    go_ret
    exact ⟨ret_bool H.out.symm, (by first | (go_grown; done) | exact bl_trans hB (by go_grown))⟩
end Go.Proofs.Ytdcjhfmkkcakhaa

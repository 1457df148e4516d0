/-
  Contract of l08List of the reference: the tilings that continue a head, in order; nothing that was there is written; the region is valid, the number of tilings is at most the number asked for.
-/
import Derived.Test.YtdcjhfmkkcakhaaTilP
import Derived.Test.YtdcjhfmkkcakhaaDD
import Derived.Test.YtdcjhfmkkcakhaaUnc
import Derived.Test.YtdcjhfmkkcakhaaCnt
import Derived.Deep.CutRange
import Derived.Deep.DeepMust
import Derived.Deep.RegionHeld3
namespace Go.Proofs.Ytdcjhfmkkcakhaa
open Go.ChangeShapes Go.WideShapes Go.ChangeAt Go.RowKit Go.Deep
set_option linter.unusedVariables false

theorem covers_app1 {d : Dm} (h : okD d = true) (l : List Dm) : covers (l ++ [d]) = covers l ||| ownD d := by
  unfold covers
  rw [List.foldl_append]
  show covStep _ d = _
  unfold covStep
  rw [if_pos (show domOk d.1 d.2.1 d.2.2 = true from h)]; rfl
def restH (rs : List Int) (head : List Dm) : Nat := bdiff (regSet rs) (covers head)
theorem restH_lt {rs : List Int} (h : regOk rs = true) (head : List Dm) : restH rs head < 18446744073709551616 := bdiff_lt (regSet_lt h)
theorem restH_snoc {rs : List Int} (h : regOk rs = true) (head : List Dm) {d : Dm} (hd : okD d = true) : restH rs (head ++ [d]) = bdiff (restH rs head) (ownD d) := by
  unfold restH
  rw [covers_app1 hd, bdiff_or (regSet_lt h) (covers_lt _) (ownD_lt hd)]
def outK (f s : Nat) (head : List Dm) (k : Nat) : List (List Dm) := (List.range k).flatMap fun i => (tilD f s (i == 1)).map (head ++ ·)
theorem outK_succ (f s : Nat) (head : List Dm) (k : Nat) : outK f s head (k + 1) = outK f s head k ++ (tilD f s (k == 1)).map (head ++ ·) := by
  unfold outK; rw [List.range_succ, List.flatMap_append]; simp
theorem outK_two (f : Nat) {s : Nat} (h : s ≠ 0) (head : List Dm) : outK f s head 2 = (tils (f + 1) s).map (head ++ ·) := by
  rw [outK_succ, outK_succ, tils_succ f h, List.map_append]; rfl
theorem outK_len {f s : Nat} (h : s ≠ 0) (head : List Dm) {k : Nat} (hk : k ≤ 2) : (outK f s head k).length ≤ (tils (f + 1) s).length := by
  rw [show (tils (f + 1) s).length = (outK f s head 2).length by rw [outK_two f h, List.length_map]]
  rcases (show k = 0 ∨ k = 1 ∨ k = 2 by omega) with rfl | rfl | rfl
  · simp [outK]
  · rw [outK_succ f s head 1, List.length_append]; omega
  · exact Nat.le_refl _
theorem outK_full {f s : Nat} (h : s ≠ 0) (head : List Dm) {k most : Nat} (hk : k ≤ 2) (hm : (tils (f + 1) s).length ≤ most) (hl : most ≤ (outK f s head k).length) : outK f s head k = (tils (f + 1) s).map (head ++ ·) := by
  rw [← outK_two f h]
  have e : (tils (f + 1) s).length = (outK f s head 2).length := by rw [outK_two f h, List.length_map]
  rcases (show k = 0 ∨ k = 1 ∨ k = 2 by omega) with rfl | rfl | rfl
  · have : (outK f s head 2).length = 0 := by have : (outK f s head 0).length = 0 := by simp [outK]
                                              omega
    rw [List.eq_nil_of_length_eq_zero this]; simp [outK]
  · rw [outK_succ f s head 1] at e ⊢
    rw [List.length_append] at e
    rw [List.eq_nil_of_length_eq_zero (show ((tilD f s (1 == 1)).map (head ++ ·)).length = 0 by omega), List.append_nil]
  · rfl
theorem tilD_no {f s : Nat} {z : Bool} {X Y : Int} (hl : X = (cellOf (lowb s)).1 ∧ Y = (cellOf (lowb s)).2) (h : fitD s (X, Y, z) = false) : tilD f s z = [] := by
  obtain ⟨rfl, rfl⟩ := hl
  unfold tilD
  rw [if_neg (by show ¬ fitD s (dmAt (lowb s) z) = true; rw [show fitD s (dmAt (lowb s) z) = false from h]; decide)]
theorem tilD_yes {f s : Nat} {z : Bool} {X Y : Int} (hl : X = (cellOf (lowb s)).1 ∧ Y = (cellOf (lowb s)).2) (h : fitD s (X, Y, z) = true) : tilD f s z = (tils f (bdiff s (ownD (X, Y, z)))).map ((X, Y, z) :: ·) := by
  obtain ⟨rfl, rfl⟩ := hl
  unfold tilD
  rw [if_pos (show fitD s (dmAt (lowb s) z) = true from h)]; rfl
theorem outK_no {f s k : Nat} {head : List Dm} {z : Bool} {X Y : Int} (hz : (k == 1) = z) (hl : X = (cellOf (lowb s)).1 ∧ Y = (cellOf (lowb s)).2) (h : fitD s (X, Y, z) = false) : outK f s head (k + 1) = outK f s head k := by
  rw [outK_succ, hz, tilD_no hl h]; simp
theorem outK_yes {f s k : Nat} {head : List Dm} {z : Bool} {X Y : Int} (hz : (k == 1) = z) (hl : X = (cellOf (lowb s)).1 ∧ Y = (cellOf (lowb s)).2) (h : fitD s (X, Y, z) = true) : outK f s head (k + 1) = outK f s head k ++ (tils f (bdiff s (ownD (X, Y, z)))).map (fun x => head ++ [(X, Y, z)] ++ x) := by
  rw [outK_succ, hz, tilD_yes hl h, List.map_map]
  congr 1
  apply List.map_congr_left
  intro x _
  simp
/-- the domino at the least cell fits or not -/
theorem fit_cases {rs : List Int} (hreg : regOk rs = true) (head : List Dm) (h0 : restH rs head ≠ 0) (z : Bool) {X Y sx sy : Int} (hX : X = (cellOf (lowb (restH rs head))).1) (hY : Y = (cellOf (lowb (restH rs head))).2) (hsx : sx = sndX X z) (hsy : sy = sndY Y z) :
    (domOk X Y z = false ∧ fitD (restH rs head) (X, Y, z) = false) ∨ (domOk X Y z = true ∧ cellOk sx sy = true ∧ (regSet rs).testBit (idxN (sx, sy)) = false ∧ fitD (restH rs head) (X, Y, z) = false) ∨
      (domOk X Y z = true ∧ cellOk sx sy = true ∧ (regSet rs).testBit (idxN (sx, sy)) = true ∧ decide (domAt head (sx, sy) 0 ≥ 0) = true ∧ fitD (restH rs head) (X, Y, z) = false) ∨
      (domOk X Y z = true ∧ cellOk sx sy = true ∧ (regSet rs).testBit (idxN (sx, sy)) = true ∧ decide (domAt head (sx, sy) 0 ≥ 0) = false ∧ fitD (restH rs head) (X, Y, z) = true) := by
  have hR := regSet_lt hreg
  have hS := restH_lt hreg head
  obtain ⟨l1, l2, _⟩ := lowb_spec hS h0
  cases hd : domOk X Y z
  · refine .inl ⟨rfl, ?_⟩
    unfold fitD okD; dsimp only; rw [hd]; rfl
  · have hc2 : cellOk sx sy = true := by rw [hsx, hsy]; exact (domOk_cells hd).2
    have hown : ownD (X, Y, z) = 2 ^ lowb (restH rs head) ||| 2 ^ idxN (sx, sy) := by
      show nthBit X Y ||| nthBit (sndX X z) (sndY Y z) = _
      rw [← hsx, ← hsy]
      have e1 : nthBit X Y = 2 ^ lowb (restH rs head) := by
        show 2 ^ idxN (X, Y) = _
        rw [hX, hY]
        show 2 ^ idxN (cellOf _) = _
        rw [idxN_of]
      rw [e1]; rfl
    have hfit : fitD (restH rs head) (X, Y, z) = ((regSet rs).testBit (idxN (sx, sy)) && !(covers head).testBit (idxN (sx, sy))) := by
      unfold fitD
      rw [show okD (X, Y, z) = true from hd, hown, two_sub, l2, Bool.true_and, Bool.true_and]
      show (bdiff _ _).testBit _ = _
      rw [bdiff_bit hR (covers_lt _)]
    have hdom := domAt_neg (c := (sx, sy)) hc2 head 0 (Int.le_refl _)
    cases hb : (regSet rs).testBit (idxN (sx, sy))
    · exact .inr (.inl ⟨rfl, hc2, rfl, by rw [hfit, hb]; rfl⟩)
    · cases hq : (covers head).testBit (idxN (sx, sy))
      · exact .inr (.inr (.inr ⟨rfl, hc2, rfl, decide_eq_false (by have := hdom.2 hq; omega), by rw [hfit, hb, hq]; rfl⟩))
      · refine .inr (.inr (.inl ⟨rfl, hc2, rfl, decide_eq_true ?_, by rw [hfit, hb, hq]; rfl⟩))
        rcases Int.lt_or_le (domAt head (sx, sy) 0) 0 with h | h
        · rw [hdom.1 h] at hq; cases hq
        · exact h
theorem cells_head {s : Nat} (hs : s < 18446744073709551616) (h0 : s ≠ 0) : (cellsBy s.testBit 64)[0]? = some (cellOf (lowb s)) := by
  have h1 : ((List.range 64).filter s.testBit)[0]? = some (lowb s) := by
    rw [← List.head?_eq_getElem?, List.head?_filter]
    obtain ⟨l1, l2, l3⟩ := lowb_spec hs h0
    rw [List.find?_range_eq_some]
    exact ⟨l2, List.mem_range.2 l1, fun j hj => by simp [l3 j hj]⟩
  unfold cellsBy
  rw [List.getElem?_map, h1]; rfl
theorem cells_nil {s : Nat} (h : s = 0) : cellsBy s.testBit 64 = [] := by
  subst h
  have : (cellsBy (Nat.testBit 0) 64).length = 0 := by rw [card_cells]; exact (card_zero (by decide)).2 rfl
  exact List.eq_nil_of_length_eq_zero this
theorem OwC.farDD {B B2 : Nat} {w w1 : World} {v v2 : Value} {l : List Cl} {ll : List (List Dm)} (h : OwC B w v l) (k : OwDD B2 w v2 ll) (hg : w.grownBy w1 v2.ownBlock) : OwC B w1 v l := ⟨h.1, h.2.1.kept hg (own_apart h.2.1 (by decide) (OwS.typ k)), h.2.2⟩
def L08C (A : Option Addr) (c : Nat) (rs : List Int) (f : Nat) : Prop :=
  ∀ (head : List Dm) (B : Option Addr) (N d most : Nat) (w : World), N = head.length → head.length + f ≤ 64 → most ≤ 300 → card (restH rs head) ≤ f → (tils f (restH rs head)).length ≤ most → RdI w A rs → RdD w B head →
    Calls Try.prog 203 #[.agg #[.slice A rs.length c], .slice B N d, .int .i64 (most : Int)] w fun e w' => ∃ v, e = .returned v ∧ OwDD w.heap.size w' v ((tils f (restH rs head)).map (head ++ ·)) ∧ Below w.heap.size w w'
set_option maxRecDepth 100000 in
set_option maxHeartbeats 4000000 in
theorem l08List_leaf (A : Option Addr) (c : Nat) (rs : List Int) (hreg : regOk rs = true) (head : List Dm) (B : Option Addr) (N d most : Nat) (w : World) (hN : N = head.length) (hl2 : N ≤ 64) (h0 : restH rs head = 0) (hr : RdI w A rs) (hs : RdD w B head) :
    Calls Try.prog 203 #[.agg #[.slice A rs.length c], .slice B N d, .int .i64 (most : Int)] w fun e w' => ∃ v, e = .returned v ∧ OwDD w.heap.size w' v [head] ∧ Below w.heap.size w w' := by
  have hB0 := bl_alloc (bl_alloc (Below.refl w.heap.size w) (.cells #[.slice A rs.length c] 31)) (.cells #[] 46)
  have P := (Blk.new w 31 [.slice A rs.length c]).alloc (.cells #[] 46)
  have Pc := P.c1
  have O0 := Lib.hid (OwDD.new_ (B := w.heap.size) (w := w.alloc (.cells #[.slice A rs.length c] 31)) (by rw [World.size_alloc]; omega))
  rw [World.size_alloc] at O0
  have hr' := Lib.hid hr
  have hs' := Lib.hid hs
  have HN := Lib.hid hN
  have hrl : rs.length ≤ 1048576 := by have := (regOk_iff.1 hreg).1; omega
  have hnl : N ≤ 1048576 := by omega
  have hU : uncL rs head = [] := by rw [uncL_cells hreg]; exact cells_nil h0
  have HU := Lib.hid hU
  clear hr hs hN hU
  go_enter Try.func203, Try.ntmps203
  go_wp2_with (first | (go_at_call 209; refine (UncoveredOf_s A c rs B N d head _ hrl (hr'.out.below hB0) HN.out hnl (hs'.out.below hB0)).mono ?_; rintro e w1 ⟨v1, rfl, o1, hb1⟩; rw [HU.out] at o1; obtain ⟨⟨A1, c1, rfl⟩, _⟩ := id o1; have O1 := Lib.hid (O0.out.bel hb1); have HB1 := Lib.hid (bl_trans hB0 hb1); have hs1 : w.heap.size ≤ w1.heap.size := (bl_trans hB0 hb1).size; clear o1 hb1 P Pc O0 hB0) | (at_builtin; refine wpList_apsD (w := w1.alloc (.cells #[] 53)) rfl (.tmp 20) (.tmp 21) rfl w1.heap.size _ [] head B d rfl N rfl (OwD.new_ (Nat.le_refl _)) (hs'.out.below (bl_alloc HB1.out _)) HN.out (by rw [World.size_alloc]; omega) (by simp) (by rw [← HN.out]; exact hnl) ?_; intro v2 w2 o2 b2; have O2 := Lib.hid (b2 w1 (bl_alloc (Below.refl _ _) _)); obtain ⟨⟨A2, c2, rfl⟩, _⟩ := id o2; have Ow2 : Hid (OwD 0 w2 (.slice A2 head.length c2) head) := Lib.hid (by have := OwD.mono o2 (Nat.zero_le _); simpa using this); have HB2 := Lib.hid (bl_trans HB1.out O2.out); have hs2 : w.heap.size ≤ w2.heap.size := HB2.out.size; have O1b := Lib.hid (O1.out.bel O2.out); clear o2 b2) | (at_builtin; refine wpList_apDD (wr := w2) rfl (.tmp 19) (.tmp 23) rfl w.heap.size _ [] _ head rfl rfl O1b.out Ow2.out hs2 (by simp) ?_; intro A9 L9 c9 w9 hL o9 b9 g9 s9))
  go_ret
  exact ⟨_, rfl, o9, b9 _ HB2.out⟩
set_option maxRecDepth 100000 in
set_option maxHeartbeats 4000000 in
theorem l08List_step (A : Option Addr) (c : Nat) (rs : List Int) (hreg : regOk rs = true) (f : Nat) (ih : L08C A c rs f) (head : List Dm) (B : Option Addr) (N d most : Nat) (w : World) (hN : N = head.length) (hh64 : head.length + (f + 1) ≤ 64) (hm300 : most ≤ 300)
    (hcd : card (restH rs head) ≤ f + 1) (h0 : restH rs head ≠ 0) (hmost : (tils (f + 1) (restH rs head)).length ≤ most) (hr : RdI w A rs) (hs : RdD w B head) :
    Calls Try.prog 203 #[.agg #[.slice A rs.length c], .slice B N d, .int .i64 (most : Int)] w fun e w' => ∃ v, e = .returned v ∧ OwDD w.heap.size w' v ((tils (f + 1) (restH rs head)).map (head ++ ·)) ∧ Below w.heap.size w w' := by
  have hB0 := bl_alloc (bl_alloc (Below.refl w.heap.size w) (.cells #[.slice A rs.length c] 31)) (.cells #[] 46)
  have P0 := Lib.hid ((Blk.new w 31 [.slice A rs.length c]).alloc (.cells #[] 46))
  have Pc := P0.out.c1
  have O0 := Lib.hid (OwDD.new_ (B := w.heap.size + 1) (w := w.alloc (.cells #[.slice A rs.length c] 31)) (by rw [World.size_alloc]; omega))
  rw [World.size_alloc] at O0
  have hr' := Lib.hid hr
  have hs' := Lib.hid hs
  have HN := Lib.hid hN
  have hrl : rs.length ≤ 1048576 := by have := (regOk_iff.1 hreg).1; omega
  have hnl : N ≤ 64 := by omega
  obtain ⟨s, hse⟩ : ∃ s, s = restH rs head := ⟨_, rfl⟩
  have hsl : s < 18446744073709551616 := by rw [hse]; exact restH_lt hreg head
  have hs0 : s ≠ 0 := by rw [hse]; exact h0
  have hU : uncL rs head = cellsBy s.testBit 64 := by rw [uncL_cells hreg, hse]; rfl
  have HU := Lib.hid hU
  have HSE := Lib.hid hse
  rw [← hse] at hcd hmost h0
  obtain ⟨L, hL⟩ : ∃ L, L = cellsBy s.testBit 64 := ⟨_, rfl⟩
  obtain ⟨q, hq⟩ : ∃ q, q = lowb s := ⟨_, rfl⟩
  obtain ⟨X, hX⟩ : ∃ X, X = (cellOf q).1 := ⟨_, rfl⟩
  obtain ⟨Y, hY⟩ : ∃ Y, Y = (cellOf q).2 := ⟨_, rfl⟩
  have hL0 : L[0]? = some (X, Y) := by rw [hL, cells_head hsl hs0, ← hq, hX, hY]
  have hL64 : L.length ≤ 64 := by rw [hL]; exact cellsBy_len _ _
  have hLpos : 0 < L.length := (List.getElem?_eq_some_iff.1 hL0).1
  have hLn : ((L.length : Int) == 0) = false := by simp only [beq_eq_false_iff_ne]; omega
  have hXY : cellOk X Y = true := by rw [hX, hY]; exact cellOf_ok q (by rw [hq]; exact (lowb_spec hsl hs0).1)
  have hxy := cellOk_iff.1 hXY
  have Hlow := Lib.hid (show X = (cellOf (lowb s)).1 ∧ Y = (cellOf (lowb s)).2 from ⟨by rw [hX, hq], by rw [hY, hq]⟩)
  have HL := Lib.hid hL
  have Ih := Lib.hid ih
  have Hlen := Lib.hid (fun k (hk : k ≤ 2) => outK_len (f := f) hs0 head hk)
  have Hfull := Lib.hid (fun k (hk : k ≤ 2) => outK_full (f := f) hs0 head hk hmost)
  have Hsucc := Lib.hid (outK_succ f s head)
  have Htwo := Lib.hid (outK_two f hs0 head)
  have Hcd := Lib.hid hcd
  have Hmost := Lib.hid hmost
  rw [← hL] at HU
  clear hr hs hN ih hse hU hL hX hY hq hmost hcd
  go_enter Try.func203, Try.ntmps203
  go_wp2_with (go_at_call 209; refine (UncoveredOf_s A c rs B N d head _ hrl (hr'.out.below hB0) HN.out (by omega) (hs'.out.below hB0)).mono ?_; rintro e w1 ⟨v1, rfl, o1, hb1⟩; rw [HU.out] at o1; obtain ⟨⟨A1, c1, rfl⟩, _⟩ := id o1; have O1 := Lib.hid (O0.out.bel hb1); have HB1 := Lib.hid (bl_trans hB0 hb1); have HC1 := Lib.hid (o1.mono (B' := w.heap.size) hB0.size); have HP1 := Lib.hid (P0.out.bel hb1); have hs1 : w.heap.size + 1 ≤ w1.heap.size := HP1.out.lt; clear o1 hb1 O0 hB0 P0 Pc)
  go_loopw [7, 9] (fun o i wr => ∃ k : Nat, k ≤ 2 ∧ i = .int .i64 k ∧ OwDD (w.heap.size + 1) wr o (outK f s head k) ∧ Hid (OwC w.heap.size wr (.slice A1 L.length c1) L) ∧ Hid (Blk wr w.heap.size 31 [.slice A rs.length c]) ∧ Hid (Below w.heap.size w wr)) (fun _ i _ => 2 - (intOf i).toNat)
  case atStart => exact ⟨0, by omega, rfl, O1.out, HC1, HP1, HB1⟩
  case round =>
    obtain ⟨k, hk, rfl, o1, HC, HP, HB⟩ := hrel
    clear O1 HC1 HP1 HB1 hs1
    obtain ⟨⟨Ao, co, rfl⟩, _⟩ := id o1
    obtain ⟨Lo, hLo⟩ : ∃ Lo, Lo = (outK f s head k).length := ⟨_, rfl⟩
    rw [← hLo] at o1 ⊢
    have HO := Lib.hid o1
    have HLo := Lib.hid hLo
    have hLo300 : Lo ≤ 300 := by rw [hLo]; exact Nat.le_trans (Hlen.out k hk) (Nat.le_trans Hmost.out hm300)
    clear o1 hLo
    by_cases hk2 : k < 2
    · by_cases hlm : Lo < most
      · have q1 : decide ((Lo : Int) < (most : Int)) = true := decide_eq_true (by omega)
        obtain ⟨z, hz⟩ : ∃ z, z = ((k : Int) == 1) := ⟨_, rfl⟩
        have hz' := hz.symm
        have Hz : Hid ((k == 1) = z) := Lib.hid (by rw [hz, show (1 : Int) = ((1 : Nat) : Int) from rfl, beq_cast])
        obtain ⟨b, off, x, y, hA1, hbl, hx, _, gx, gy, hc1, hc2⟩ := HC.out.rd.at_ (k := 0) hLpos
        rw [hL0] at hx
        injection hx with hx
        injection hx with hx hy
        subst hx
        subst hy
        subst hA1
        simp only [Nat.zero_mul, Nat.add_zero] at hc1 hc2
        obtain ⟨wo, rfl⟩ : ∃ wo : World, wo = wr := ⟨_, rfl⟩
        clear hz
        go_upto_region 8 with fail
        go_cut [10] from 35 to 45 (fun s10 wx => s10 = .pointer (some ⟨wo.heap.size, 0, none⟩) ∧ Hid (Blk wx wo.heap.size 53 [.int .i64 X, .int .i64 Y, .bool z]) ∧ Hid (Below wo.heap.size wo wx))
        case first =>
          go_region
          all_goals (go_wp2_with fail)
          all_goals go_meet
          all_goals exact ⟨rfl, Lib.hid (Blk.new wo _ _).drew, Lib.hid (bl_drew (bl_alloc (Below.refl _ _) _))⟩
        case rest =>
          obtain ⟨rfl, QD, HBx⟩ := hcut
          have hDP : w.heap.size < wo.heap.size := HP.out.lt
          replace HP := Lib.hid (HP.out.bel HBx.out)
          replace HC := Lib.hid (HC.out.bel HBx.out)
          replace HO := Lib.hid (HO.out.bel HBx.out)
          replace HB := Lib.hid (bl_trans HB.out HBx.out)
          obtain ⟨D, hD⟩ : ∃ D, D = wo.heap.size := ⟨_, rfl⟩
          rw [← hD] at QD hDP ⊢
          clear hD HBx hc1 hc2 hbl
          have dc := QD.out.c3
          have pc := HP.out.c1
          obtain ⟨sx, hsx⟩ : ∃ sx, sx = sndX X z := ⟨_, rfl⟩
          obtain ⟨sy, hsy⟩ : ∃ sy, sy = sndY Y z := ⟨_, rfl⟩
          have Hsx := Lib.hid hsx
          have Hsy := Lib.hid hsy
          obtain ⟨db, hdb⟩ : ∃ db, db = domAt head (sx, sy) 0 := ⟨_, rfl⟩
          have Hdb := Lib.hid hdb
          have hfc := fit_cases hreg head (by rw [← HSE.out]; exact hs0) z (X := X) (Y := Y) (by rw [← HSE.out]; exact Hlow.out.1) (by rw [← HSE.out]; exact Hlow.out.2) hsx hsy
          rw [← HSE.out, ← hdb] at hfc
          clear hsx hsy hdb
          rcases hfc with ⟨hdo, hf⟩ | ⟨hdo, hc2, hbit, hf⟩ | ⟨hdo, hc2, hbit, hda, hf⟩ | ⟨hdo, hc2, hbit, hda, hf⟩
          · have Hs2 := Lib.hid (outK_no (f := f) (head := head) Hz.out Hlow.out hf)
            clear hf
            go_wp2_with (first | (go_at_call 169; refine (l05Second_any X Y z _).mono ?_; rintro e w3 ⟨rfl, hb3⟩; rw [← Hsx.out, ← Hsy.out]; replace hb3 := bl_alloc hb3 (.cells #[.int .i64 sx, .int .i64 sy] 35); have QS := Lib.hid (Blk.new w3 35 [.int .i64 sx, .int .i64 sy]); replace HB := Lib.hid (bl_trans HB.out hb3); replace HP := Lib.hid (HP.out.bel hb3); replace HC := Lib.hid (HC.out.bel hb3); replace HO := Lib.hid (HO.out.bel hb3); replace QD := Lib.hid (QD.out.bel hb3); have pc := HP.out.c1; have dc := QD.out.c3; have sc := QS.out.c2; clear hb3) | (go_at_call 168; refine (DominoOk_s X Y z _).mono ?_; rintro e w4 ⟨rfl, hb4⟩; rw [hdo]; replace QS := Lib.hid (QS.out.bel hb4); replace HB := Lib.hid (bl_trans HB.out hb4); replace HP := Lib.hid (HP.out.bel hb4); replace HC := Lib.hid (HC.out.bel hb4); replace HO := Lib.hid (HO.out.bel hb4); replace QD := Lib.hid (QD.out.bel hb4); have pc := HP.out.c1; have dc := QD.out.c3; have sc := QS.out.c2; clear hb4))
            go_roundw
            case rel => exact ⟨k + 1, by omega, by go_num, by rw [Hs2.out]; exact HO.out, HC, HP, HB⟩
            case measure => simp [intOf]; omega
          · have Hs2 := Lib.hid (outK_no (f := f) (head := head) Hz.out Hlow.out hf)
            have Hhc := Lib.hid ((HasCell_bit hreg hc2).trans hbit)
            clear hf hc2 hbit
            go_wp2_with (first | (go_at_call 169; refine (l05Second_any X Y z _).mono ?_; rintro e w3 ⟨rfl, hb3⟩; rw [← Hsx.out, ← Hsy.out]; replace hb3 := bl_alloc hb3 (.cells #[.int .i64 sx, .int .i64 sy] 35); have QS := Lib.hid (Blk.new w3 35 [.int .i64 sx, .int .i64 sy]); replace HB := Lib.hid (bl_trans HB.out hb3); replace HP := Lib.hid (HP.out.bel hb3); replace HC := Lib.hid (HC.out.bel hb3); replace HO := Lib.hid (HO.out.bel hb3); replace QD := Lib.hid (QD.out.bel hb3); have pc := HP.out.c1; have dc := QD.out.c3; have sc := QS.out.c2; clear hb3) | (go_at_call 168; refine (DominoOk_s X Y z _).mono ?_; rintro e w4 ⟨rfl, hb4⟩; rw [hdo]; replace QS := Lib.hid (QS.out.bel hb4); replace HB := Lib.hid (bl_trans HB.out hb4); replace HP := Lib.hid (HP.out.bel hb4); replace HC := Lib.hid (HC.out.bel hb4); replace HO := Lib.hid (HO.out.bel hb4); replace QD := Lib.hid (QD.out.bel hb4); have pc := HP.out.c1; have dc := QD.out.c3; have sc := QS.out.c2; clear hb4) | (go_at_call 84; refine (HasCell_s A c rs sx sy _ hrl (hr'.out.below HB.out)).mono ?_; rintro e w5 ⟨rfl, hb5⟩; rw [Hhc.out]; replace QS := Lib.hid (QS.out.bel hb5); replace HB := Lib.hid (bl_trans HB.out hb5); replace HP := Lib.hid (HP.out.bel hb5); replace HC := Lib.hid (HC.out.bel hb5); replace HO := Lib.hid (HO.out.bel hb5); replace QD := Lib.hid (QD.out.bel hb5); have pc := HP.out.c1; have dc := QD.out.c3; have sc := QS.out.c2; clear hb5))
            go_roundw
            case rel => exact ⟨k + 1, by omega, by go_num, by rw [Hs2.out]; exact HO.out, HC, HP, HB⟩
            case measure => simp [intOf]; omega
          · have Hs2 := Lib.hid (outK_no (f := f) (head := head) Hz.out Hlow.out hf)
            have Hhc := Lib.hid ((HasCell_bit hreg hc2).trans hbit)
            clear hf hc2 hbit
            go_wp2_with (first | (go_at_call 169; refine (l05Second_any X Y z _).mono ?_; rintro e w3 ⟨rfl, hb3⟩; rw [← Hsx.out, ← Hsy.out]; replace hb3 := bl_alloc hb3 (.cells #[.int .i64 sx, .int .i64 sy] 35); have QS := Lib.hid (Blk.new w3 35 [.int .i64 sx, .int .i64 sy]); replace HB := Lib.hid (bl_trans HB.out hb3); replace HP := Lib.hid (HP.out.bel hb3); replace HC := Lib.hid (HC.out.bel hb3); replace HO := Lib.hid (HO.out.bel hb3); replace QD := Lib.hid (QD.out.bel hb3); have pc := HP.out.c1; have dc := QD.out.c3; have sc := QS.out.c2; clear hb3) | (go_at_call 168; refine (DominoOk_s X Y z _).mono ?_; rintro e w4 ⟨rfl, hb4⟩; rw [hdo]; replace QS := Lib.hid (QS.out.bel hb4); replace HB := Lib.hid (bl_trans HB.out hb4); replace HP := Lib.hid (HP.out.bel hb4); replace HC := Lib.hid (HC.out.bel hb4); replace HO := Lib.hid (HO.out.bel hb4); replace QD := Lib.hid (QD.out.bel hb4); have pc := HP.out.c1; have dc := QD.out.c3; have sc := QS.out.c2; clear hb4) | (go_at_call 84; refine (HasCell_s A c rs sx sy _ hrl (hr'.out.below HB.out)).mono ?_; rintro e w5 ⟨rfl, hb5⟩; rw [Hhc.out]; replace QS := Lib.hid (QS.out.bel hb5); replace HB := Lib.hid (bl_trans HB.out hb5); replace HP := Lib.hid (HP.out.bel hb5); replace HC := Lib.hid (HC.out.bel hb5); replace HO := Lib.hid (HO.out.bel hb5); replace QD := Lib.hid (QD.out.bel hb5); have pc := HP.out.c1; have dc := QD.out.c3; have sc := QS.out.c2; clear hb5) | (go_at_call 208; refine (DominoAt_any B N d head sx sy _ HN.out (by omega) (hs'.out.below HB.out)).mono ?_; rintro e w6 ⟨rfl, hb6⟩; rw [← Hdb.out]; replace QS := Lib.hid (QS.out.bel hb6); replace HB := Lib.hid (bl_trans HB.out hb6); replace HP := Lib.hid (HP.out.bel hb6); replace HC := Lib.hid (HC.out.bel hb6); replace HO := Lib.hid (HO.out.bel hb6); replace QD := Lib.hid (QD.out.bel hb6); have pc := HP.out.c1; have dc := QD.out.c3; have sc := QS.out.c2; clear hb6))
            go_roundw
            case rel => exact ⟨k + 1, by omega, by go_num, by rw [Hs2.out]; exact HO.out, HC, HP, HB⟩
            case measure => simp [intOf]; omega
          · have hs2 := outK_yes (f := f) (head := head) Hz.out Hlow.out hf
            obtain ⟨hdk, hsub⟩ := own_low hf
            have hrest := restH_snoc hreg head hdk
            rw [← HSE.out] at hrest
            have hlen2 := Hlen.out (k + 1) (by omega)
            rw [hs2, List.length_append, List.length_map, ← HLo.out] at hlen2
            have Hq : Hid ((head ++ [(X, Y, z)]).length + f ≤ 64 ∧ card (restH rs (head ++ [(X, Y, z)])) ≤ f ∧ (tils f (restH rs (head ++ [(X, Y, z)]))).length ≤ most - Lo) := Lib.hid (by
              refine ⟨by rw [List.length_append]; simp; omega, ?_, ?_⟩
              · rw [hrest]
                exact sub_card hsl (ownD_lt hdk) hsub (by intro e0; have := (own_min hdk).2.1; rw [e0] at this; simp at this) Hcd.out
              · rw [hrest]; have := Hmost.out; omega)
            obtain ⟨mm, hmm⟩ : ∃ mm, mm = (tils f (bdiff s (ownD (X, Y, z)))).map (fun x => head ++ [(X, Y, z)] ++ x) := ⟨_, rfl⟩
            rw [← hmm] at hs2
            have H9 := Lib.hid (show (tils f (restH rs (head ++ [(X, Y, z)]))).map (fun x => head ++ [(X, Y, z)] ++ x) = mm by rw [hrest, hmm])
            have Hm9 : Hid (mm.length ≤ 1048576) := Lib.hid (by rw [hmm, List.length_map]; have := Hmost.out; omega)
            clear hmm
            have hok1 : (outK f s head k).length ≤ 1048576 := by rw [← HLo.out]; omega
            have Hs2 := Lib.hid hs2
            have Hhc := Lib.hid ((HasCell_bit hreg hc2).trans hbit)
            obtain ⟨mr, hmr⟩ : ∃ mr, mr = most - Lo := ⟨_, rfl⟩
            have hsubw : IntKind.i64.wrap ((most : Int) - (Lo : Int)) = (mr : Int) := by rw [IntWalk.i64_in _ (by omega)]; omega
            rw [← hmr] at Hq
            have hmr300 : mr ≤ 300 := by omega
            clear hmr
            clear hf hc2 hbit hs2 hrest hlen2 hsub hdk
            go_upto_region 11 with (first | (go_at_call 169; refine (l05Second_any X Y z _).mono ?_; rintro e w3 ⟨rfl, hb3⟩; rw [← Hsx.out, ← Hsy.out]; replace hb3 := bl_alloc hb3 (.cells #[.int .i64 sx, .int .i64 sy] 35); have QS := Lib.hid (Blk.new w3 35 [.int .i64 sx, .int .i64 sy]); replace HB := Lib.hid (bl_trans HB.out hb3); replace HP := Lib.hid (HP.out.bel hb3); replace HC := Lib.hid (HC.out.bel hb3); replace HO := Lib.hid (HO.out.bel hb3); replace QD := Lib.hid (QD.out.bel hb3); have pc := HP.out.c1; have dc := QD.out.c3; have sc := QS.out.c2; clear hb3) | (go_at_call 168; refine (DominoOk_s X Y z _).mono ?_; rintro e w4 ⟨rfl, hb4⟩; rw [hdo]; replace QS := Lib.hid (QS.out.bel hb4); replace HB := Lib.hid (bl_trans HB.out hb4); replace HP := Lib.hid (HP.out.bel hb4); replace HC := Lib.hid (HC.out.bel hb4); replace HO := Lib.hid (HO.out.bel hb4); replace QD := Lib.hid (QD.out.bel hb4); have pc := HP.out.c1; have dc := QD.out.c3; have sc := QS.out.c2; clear hb4) | (go_at_call 84; refine (HasCell_s A c rs sx sy _ hrl (hr'.out.below HB.out)).mono ?_; rintro e w5 ⟨rfl, hb5⟩; rw [Hhc.out]; replace QS := Lib.hid (QS.out.bel hb5); replace HB := Lib.hid (bl_trans HB.out hb5); replace HP := Lib.hid (HP.out.bel hb5); replace HC := Lib.hid (HC.out.bel hb5); replace HO := Lib.hid (HO.out.bel hb5); replace QD := Lib.hid (QD.out.bel hb5); have pc := HP.out.c1; have dc := QD.out.c3; have sc := QS.out.c2; clear hb5) | (go_at_call 208; refine (DominoAt_any B N d head sx sy _ HN.out (by omega) (hs'.out.below HB.out)).mono ?_; rintro e w6 ⟨rfl, hb6⟩; rw [← Hdb.out]; replace QS := Lib.hid (QS.out.bel hb6); replace HB := Lib.hid (bl_trans HB.out hb6); replace HP := Lib.hid (HP.out.bel hb6); replace HC := Lib.hid (HC.out.bel hb6); replace HO := Lib.hid (HO.out.bel hb6); replace QD := Lib.hid (QD.out.bel hb6); have pc := HP.out.c1; have dc := QD.out.c3; have sc := QS.out.c2; clear hb6))
            obtain ⟨wz, hwz0⟩ : ∃ wz, wz = w6 := ⟨_, rfl⟩
            rw [← hwz0] at HB HP HC HO QD pc dc ⊢
            clear hwz0 QS sc
            have HPl := Lib.hid HP.out.lt
            have HDs := Lib.hid QD.out.lt
            have HBz := HB
            have hwz : w.heap.size ≤ wz.heap.size := HB.out.size
            have hwz1 : w.heap.size + 1 ≤ wz.heap.size := HP.out.lt
            have hhl : head.length ≤ 1048576 := by omega
            have hhl2 : ([] ++ head).length ≤ 1048576 := by simpa using hhl
            have h0l : ([] : List Dm).length ≤ 1048576 := by simp
            have hal : ∀ (W : World) (o : Obj), Below W.heap.size W (W.alloc o) := fun W o => Below.alloc (Below.refl _ _) (Nat.le_refl _) o
            have rd1 : ∀ {W : World} {g : Nat}, Blk W g 53 [.int .i64 X, .int .i64 Y, .bool z] → RdD W (some ⟨g, 0, none⟩) [(X, Y, z)] := fun hb => ⟨hb.rd rfl, by simp; exact ⟨gx, gy⟩⟩
            have hz1 : wz.heap.size ≤ ((wz.alloc (.cells #[] 53)).alloc (.cells #[.int .i64 X, .int .i64 Y, .bool z] 53)).drew.heap.size := by show wz.heap.size ≤ ((wz.alloc (.cells #[] 53)).alloc (.cells #[.int .i64 X, .int .i64 Y, .bool z] 53)).heap.size; rw [World.size_alloc, World.size_alloc]; omega
            have hz2 : wz.heap.size ≤ ((wz.alloc (.cells #[.int .i64 X, .int .i64 Y, .bool z] 53)).alloc (.cells #[] 53)).drew.heap.size := by show wz.heap.size ≤ ((wz.alloc (.cells #[.int .i64 X, .int .i64 Y, .bool z] 53)).alloc (.cells #[] 53)).heap.size; rw [World.size_alloc, World.size_alloc]; omega
            have hz3 : wz.heap.size ≤ (wz.alloc (.cells #[] 53)).drew.heap.size := by show wz.heap.size ≤ (wz.alloc (.cells #[] 53)).heap.size; rw [World.size_alloc]; omega
            have nA : OwD wz.heap.size (wz.alloc (.cells #[] 53)) (.slice (some ⟨wz.heap.size, 0, none⟩) 0 0) [] := OwD.new_ (Nat.le_refl _)
            have nB : OwD wz.heap.size ((wz.alloc (.cells #[.int .i64 X, .int .i64 Y, .bool z] 53)).alloc (.cells #[] 53)) (.slice (some ⟨wz.heap.size + 1, 0, none⟩) 0 0) [] := by
              have := OwD.new_ (B := wz.heap.size) (w := wz.alloc (.cells #[.int .i64 X, .int .i64 Y, .bool z] 53)) (by rw [World.size_alloc]; omega)
              rwa [World.size_alloc] at this
            have F1 : Hid (OwD wz.heap.size ((wz.alloc (.cells #[] 53)).alloc (.cells #[.int .i64 X, .int .i64 Y, .bool z] 53)).drew (.slice (some ⟨wz.heap.size, 0, none⟩) 0 0) []) := Lib.hid (nA.bel (bl_drew (hal _ _)))
            have F2 : Hid (OwD wz.heap.size ((wz.alloc (.cells #[.int .i64 X, .int .i64 Y, .bool z] 53)).alloc (.cells #[] 53)).drew (.slice (some ⟨wz.heap.size + 1, 0, none⟩) 0 0) []) := Lib.hid nB
            have F3 : Hid (OwD wz.heap.size (wz.alloc (.cells #[] 53)).drew (.slice (some ⟨wz.heap.size, 0, none⟩) 0 0) []) := Lib.hid nA
            have Rz := hs'.out.below HB.out
            have R1 : Hid (RdD ((wz.alloc (.cells #[] 53)).alloc (.cells #[.int .i64 X, .int .i64 Y, .bool z] 53)).drew B head) := Lib.hid (Rz.below (bl_drew ((hal _ _).trans ((hal _ _).mono (by rw [World.size_alloc]; omega)))))
            have R2 : Hid (RdD ((wz.alloc (.cells #[.int .i64 X, .int .i64 Y, .bool z] 53)).alloc (.cells #[] 53)).drew B head) := Lib.hid (Rz.below (bl_drew ((hal _ _).trans ((hal _ _).mono (by rw [World.size_alloc]; omega)))))
            have R3 : Hid (RdD (wz.alloc (.cells #[] 53)).drew B head) := Lib.hid (Rz.below (bl_drew (hal _ _)))
            have N1 : Hid (Blk ((wz.alloc (.cells #[] 53)).alloc (.cells #[.int .i64 X, .int .i64 Y, .bool z] 53)).drew (wz.heap.size + 1) 53 [.int .i64 X, .int .i64 Y, .bool z]) := Lib.hid (Blk.new2 wz _ _ _).drew
            have N2 : Hid (Blk ((wz.alloc (.cells #[.int .i64 X, .int .i64 Y, .bool z] 53)).alloc (.cells #[] 53)).drew wz.heap.size 53 [.int .i64 X, .int .i64 Y, .bool z]) := Lib.hid ((Blk.new wz _ _).alloc _).drew
            have Rd1 : Hid (∀ {W : World} {g : Nat}, Blk W g 53 [.int .i64 X, .int .i64 Y, .bool z] → RdD W (some ⟨g, 0, none⟩) [(X, Y, z)]) := Lib.hid rd1
            clear hal nA nB Rz HB rd1
            clear hxy hXY hLn hLpos hL64 hL0 hdo hda hk2 hlm q1 hz' gx gy HU HL Hlow Hlen Hfull Hsucc Htwo Hcd Hmost Hsx Hsy Hdb Hhc HLo
            go_wp2_with fail
            go_region_held3 (fun w' => w'.cell? ⟨w.heap.size, 0, none⟩ = some (.slice A rs.length c) ∧ w'.cell? ⟨D, 0, none⟩ = some (.int .i64 X) ∧ w'.cell? ⟨D, 1, none⟩ = some (.int .i64 Y) ∧ w'.cell? ⟨D, 2, none⟩ = some (.bool z)) (first | exact ⟨pc, dc.1, dc.2.1, dc.2.2⟩ | exact ⟨pk6, dk6a, dk6b, dk6c⟩ | exact ⟨pk7, dk7a, dk7b, dk7c⟩ | exact ⟨pk9, dk9a, dk9b, dk9c⟩ | exact ⟨pk10, dk10a, dk10b, dk10c⟩ | go_keep) (first | (refine step_apsD (W := ((wz.alloc (.cells #[] 53)).alloc (.cells #[.int .i64 X, .int .i64 Y, .bool z] 53)).drew) (by rfl) (.tmp 65) (.tmp 66) (by rfl) wz.heap.size _ [] head B N d (by rfl) (by rfl) F1.out R1.out HN.out hz1 h0l hhl ?_; intro A6 L6 c6 w6 hL6 o6 b6 g6; have hW6 := b6 wz (by go_grown); have pk6 := (hW6.cell (p := ⟨w.heap.size, 0, none⟩) HPl.out).trans pc; have dk6a := (hW6.cell (p := ⟨D, 0, none⟩) HDs.out).trans dc.1; have dk6b := (hW6.cell (p := ⟨D, 1, none⟩) HDs.out).trans dc.2.1; have dk6c := (hW6.cell (p := ⟨D, 2, none⟩) HDs.out).trans dc.2.2; have O6 := Lib.hid o6; have HW6 := Lib.hid hW6; have hs6 := hW6.size; have BD := Lib.hid (N1.out.grow g6 (by simp)); clear o6 b6 g6 hW6) | (refine step_apsD (W := ((wz.alloc (.cells #[.int .i64 X, .int .i64 Y, .bool z] 53)).alloc (.cells #[] 53)).drew) (by rfl) (.tmp 65) (.tmp 66) (by rfl) wz.heap.size _ [] head B N d (by rfl) (by rfl) F2.out R2.out HN.out hz2 h0l hhl ?_; intro A6 L6 c6 w6 hL6 o6 b6 g6; have hW6 := b6 wz (by go_grown); have pk6 := (hW6.cell (p := ⟨w.heap.size, 0, none⟩) HPl.out).trans pc; have dk6a := (hW6.cell (p := ⟨D, 0, none⟩) HDs.out).trans dc.1; have dk6b := (hW6.cell (p := ⟨D, 1, none⟩) HDs.out).trans dc.2.1; have dk6c := (hW6.cell (p := ⟨D, 2, none⟩) HDs.out).trans dc.2.2; have O6 := Lib.hid o6; have HW6 := Lib.hid hW6; have hs6 := hW6.size; have BD := Lib.hid (N2.out.grow g6 (by simp)); clear o6 b6 g6 hW6) | (refine step_apsD (W := (wz.alloc (.cells #[] 53)).drew) (by rfl) (.tmp 65) (.tmp 66) (by rfl) wz.heap.size _ [] head B N d (by rfl) (by rfl) F3.out R3.out HN.out hz3 h0l hhl ?_; intro A6 L6 c6 w6 hL6 o6 b6 g6; have hW6 := b6 wz (by go_grown); have pk6 := (hW6.cell (p := ⟨w.heap.size, 0, none⟩) HPl.out).trans pc; have dk6a := (hW6.cell (p := ⟨D, 0, none⟩) HDs.out).trans dc.1; have dk6b := (hW6.cell (p := ⟨D, 1, none⟩) HDs.out).trans dc.2.1; have dk6c := (hW6.cell (p := ⟨D, 2, none⟩) HDs.out).trans dc.2.2; have O6 := Lib.hid o6; have HW6 := Lib.hid hW6; have hs6 := hW6.size; clear o6 b6 g6 hW6) | (refine step_apsD (W := w6) (by rfl) (.tmp 67) (.tmp 69) (by rfl) wz.heap.size _ ([] ++ head) [(X, Y, z)] (some ⟨wz.heap.size + 1, 0, none⟩) 1 1 (by rfl) (by rfl) O6.out (Rd1.out BD.out) rfl hs6 hhl2 (by simp) ?_; intro A7 L7 c7 w7 hL7 o7 b7 g7; have hW7 := b7 wz HW6.out; have pk7 := (hW7.cell (p := ⟨w.heap.size, 0, none⟩) HPl.out).trans pc; have dk7a := (hW7.cell (p := ⟨D, 0, none⟩) HDs.out).trans dc.1; have dk7b := (hW7.cell (p := ⟨D, 1, none⟩) HDs.out).trans dc.2.1; have dk7c := (hW7.cell (p := ⟨D, 2, none⟩) HDs.out).trans dc.2.2; have O7 := Lib.hid o7; have HW7 := Lib.hid hW7; have hs7 := hW7.size; clear o7 b7 g7 hW7) | (refine step_apsD (W := w6) (by rfl) (.tmp 67) (.tmp 69) (by rfl) wz.heap.size _ ([] ++ head) [(X, Y, z)] (some ⟨wz.heap.size, 0, none⟩) 1 1 (by rfl) (by rfl) O6.out (Rd1.out BD.out) rfl hs6 hhl2 (by simp) ?_; intro A7 L7 c7 w7 hL7 o7 b7 g7; have hW7 := b7 wz HW6.out; have pk7 := (hW7.cell (p := ⟨w.heap.size, 0, none⟩) HPl.out).trans pc; have dk7a := (hW7.cell (p := ⟨D, 0, none⟩) HDs.out).trans dc.1; have dk7b := (hW7.cell (p := ⟨D, 1, none⟩) HDs.out).trans dc.2.1; have dk7c := (hW7.cell (p := ⟨D, 2, none⟩) HDs.out).trans dc.2.2; have O7 := Lib.hid o7; have HW7 := Lib.hid hW7; have hs7 := hW7.size; clear o7 b7 g7 hW7) | (refine step_apsD (W := w6.alloc (.cells #[.int .i64 X, .int .i64 Y, .bool z] 53)) (by rfl) (.tmp 67) (.tmp 69) (by rfl) wz.heap.size _ ([] ++ head) [(X, Y, z)] (some ⟨w6.heap.size, 0, none⟩) 1 1 (by rfl) (by rfl) (O6.out.bel (Below.alloc (Below.refl _ _) (Nat.le_refl _) _)) (Rd1.out (Blk.new w6 _ _)) rfl (Nat.le_trans hs6 (by simp)) hhl2 (by simp) ?_; intro A7 L7 c7 w7 hL7 o7 b7 g7; have hW7 := b7 wz (HW6.out.alloc hs6 _); have pk7 := (hW7.cell (p := ⟨w.heap.size, 0, none⟩) HPl.out).trans pc; have dk7a := (hW7.cell (p := ⟨D, 0, none⟩) HDs.out).trans dc.1; have dk7b := (hW7.cell (p := ⟨D, 1, none⟩) HDs.out).trans dc.2.1; have dk7c := (hW7.cell (p := ⟨D, 2, none⟩) HDs.out).trans dc.2.2; have O7 := Lib.hid o7; have HW7 := Lib.hid hW7; have hs7 := hW7.size; clear o7 b7 g7 hW7) | (go_at_call 203; refine (Ih.out (head ++ [(X, Y, z)]) A7 L7 c7 mr w7 hL7.out (Hq.out.1) hmr300 Hq.out.2.1 Hq.out.2.2 (hr'.out.below (HBz.out.trans (HW7.out.mono hwz))) O7.out.rd).mono ?_; rintro e w9 ⟨v9, rfl, i9, hb9⟩; rw [H9.out] at i9; obtain ⟨⟨A9, c9, rfl⟩, _⟩ := id i9; have I9 := Lib.hid i9; have hW9 := HW7.out.trans (hb9.mono hs7); have pk9 := (hW9.cell (p := ⟨w.heap.size, 0, none⟩) HPl.out).trans pc; have dk9a := (hW9.cell (p := ⟨D, 0, none⟩) HDs.out).trans dc.1; have dk9b := (hW9.cell (p := ⟨D, 1, none⟩) HDs.out).trans dc.2.1; have dk9c := (hW9.cell (p := ⟨D, 2, none⟩) HDs.out).trans dc.2.2; have HW9 := Lib.hid hW9; have hs9 := hW9.size; clear i9 hb9 hW9) | (refine step_apsDD (wr := w9) (by rfl) (.tmp 63) (.tmp 75) (by rfl) (w.heap.size + 1) w7.heap.size _ (outK f s head k) mm A9 _ c9 (by rfl) (by rfl) (HO.out.bel HW9.out) I9.out (Nat.le_trans hwz1 hs9) hok1 (Hm9.out) ?_; intro A10 L10 c10 w10 hL10 o10 b10 g10; have O10 := Lib.hid o10; have hb10 := b10 w9 (Below.refl _ _); have HB10 := Lib.hid ((HBz.out.trans (HW9.out.mono hwz)).trans (hb10.mono (Nat.le_succ _))); have HP10 := Lib.hid ((HP.out.bel HW9.out).below hb10 (Nat.lt_succ_self _)); have HC10 := Lib.hid ((HC.out.bel HW9.out).farDD (HO.out.bel HW9.out) g10); have HD10 := Lib.hid ((QD.out.bel HW9.out).keepT g10 (OwS.typ (HO.out.bel HW9.out)) (by decide)); have pk10 := HP10.out.c1; obtain ⟨dk10a, dk10b, dk10c⟩ := HD10.out.c3; have HL10 := Lib.hid hL10.out; clear o10 b10 g10 hb10 hL10))
            all_goals go_wp2_with fail
            all_goals go_roundw
            all_goals first | exact ⟨k + 1, by omega, by go_num, by rw [Hs2.out]; exact O10.out, HC10, HP10, HB10⟩ | (simp [intOf]; omega)
      · have q1 : decide ((Lo : Int) < (most : Int)) = false := decide_eq_false (by omega)
        have Hf := Lib.hid (Hfull.out k hk (by rw [← HLo.out]; omega))
        go_wp2_with fail
        go_ret
        exact ⟨_, rfl, by rw [← HSE.out, ← Hf.out]; exact OwDD.mono HO.out (Nat.le_succ _), HB.out⟩
    · obtain rfl : k = 2 := by omega
      go_wp2_with fail
      go_ret
      exact ⟨_, rfl, by rw [← HSE.out, ← Htwo.out]; exact OwDD.mono HO.out (Nat.le_succ _), HB.out⟩
theorem l08List_any (A : Option Addr) (c : Nat) (rs : List Int) (hreg : regOk rs = true) : ∀ f, L08C A c rs f := by
  intro f
  induction f with
  | zero =>
    intro head B N d most w hN hh hm hcd hmost hr hs
    have h0 : restH rs head = 0 := (card_zero (restH_lt hreg head)).1 (by omega)
    have := l08List_leaf A c rs hreg head B N d most w hN (by omega) h0 hr hs
    rw [h0, tils_zero]
    simpa using this
  | succ f ih =>
    intro head B N d most w hN hh hm hcd hmost hr hs
    by_cases h0 : restH rs head = 0
    · have := l08List_leaf A c rs hreg head B N d most w hN (by omega) h0 hr hs
      rw [h0, tils_zero]
      simpa using this
    · exact l08List_step A c rs hreg f ih head B N d most w hN hh hm hcd h0 hmost hr hs
/-- the list of tilings that both packages return: none if there are none or too many -/
def listT (rs : List Int) : List (List Dm) := if inB (cntT rs) 1 300 then tils 64 (regSet rs) else []
theorem listT_len (rs : List Int) : (listT rs).length ≤ 300 := by
  unfold listT
  split
  · rename_i h
    have h1 := inB_true.1 h
    cases hreg : regOk rs
    · rw [cntT, hreg, if_neg (by decide)] at h1; omega
    · rw [cntT, if_pos hreg, ← tils_len 64 _ (regSet_lt hreg)] at h1; omega
  · simp
theorem listT_yes {rs : List Int} (h : inB (cntT rs) 1 300 = true) : regOk rs = true ∧ listT rs = tils 64 (regSet rs) ∧ (tils 64 (regSet rs)).length ≤ 300 := by
  have hl := listT_len rs
  have e : listT rs = tils 64 (regSet rs) := by unfold listT; rw [if_pos h]
  rw [e] at hl
  refine ⟨?_, e, hl⟩
  cases hreg : regOk rs
  · have h1 := inB_true.1 h
    rw [cntT, hreg, if_neg (by decide)] at h1; omega
  · rfl
theorem restH_nil {rs : List Int} (h : regOk rs = true) : restH rs [] = regSet rs := by
  unfold restH
  exact bdiff_zero _ (regSet_lt h)
theorem ListTilings_s (A : Option Addr) (c : Nat) (rs : List Int) (w : World) (hl : rs.length ≤ 1048576) (hr : RdI w A rs) :
    Calls Try.prog 183 #[.agg #[.slice A rs.length c]] w fun e w' => ∃ v, e = .returned v ∧ OwDD w.heap.size w' v (listT rs) ∧ Below w.heap.size w w' := by
  (have hB := Below.refl w.heap.size w; have P := Blk.new w 31 [.slice A rs.length c]; have Pc := P.c1)
  have hr' := Lib.hid hr
  clear hr
  obtain ⟨v, hv⟩ : ∃ v, cntT rs = v := ⟨_, rfl⟩
  have HV := Lib.hid hv
  cases hq : inB v 1 300
  · have H := Lib.hid (show listT rs = [] by unfold listT; rw [hv, hq]; rfl)
    clear hv
    go_enter Try.func183, Try.ntmps183
    go_wp2_with (first | (go_at_call 77; refine (CountTilings_s A c rs _ hl (hr'.out.below (bl_trans hB (by go_grown)))).mono ?_; rintro e wx ⟨rfl, hbn⟩; have hSz := bl_sz (bl_trans hB (by go_grown)) hbn; replace hB := bl_trans (bl_trans hB (by go_grown)) hbn; replace P := P.bel (bl_trans (by go_grown) hbn); replace Pc := P.c1; rw [HV.out]; clear hbn) | (go_at_call 128; refine (l01In_any _ _ _ _).mono ?_; rintro e wn ⟨rfl, rfl⟩; rw [hq]))
    go_ret
    refine ⟨_, rfl, ?_, bl_alloc hB _⟩
    rw [H.out]
    exact OwDD.new_ hB.size
  · obtain ⟨hreg, he, hl3⟩ := listT_yes (rs := rs) (by rw [hv]; exact hq)
    have H := Lib.hid he
    have HR := Lib.hid hreg
    have HL := Lib.hid hl3
    have Hcard : Hid (card (restH rs []) ≤ 64) := Lib.hid (by have := card_cells (restH rs []); rw [← this]; exact cellsBy_len _ _)
    clear hv he hl3 hreg
    go_enter Try.func183, Try.ntmps183
    go_wp2_with (first | (go_at_call 77; refine (CountTilings_s A c rs _ hl (hr'.out.below (bl_trans hB (by go_grown)))).mono ?_; rintro e wx ⟨rfl, hbn⟩; have hSz := bl_sz (bl_trans hB (by go_grown)) hbn; replace hB := bl_trans (bl_trans hB (by go_grown)) hbn; replace P := P.bel (bl_trans (by go_grown) hbn); replace Pc := P.c1; rw [HV.out]; clear hbn) | (go_at_call 128; refine (l01In_any _ _ _ _).mono ?_; rintro e wn ⟨rfl, rfl⟩; rw [hq]) | (go_at_call 203; refine (l08List_any A c rs HR.out 64 [] (some ⟨wx.heap.size, 0, none⟩) 0 0 300 _ rfl (by decide) (by decide) Hcard.out (by rw [restH_nil HR.out]; exact HL.out) (hr'.out.below (bl_trans hB (by go_grown))) (RdD.nil_ _ _)).mono ?_; rintro e w2 ⟨v2, rfl, o2, hb2⟩; rw [restH_nil HR.out] at o2))
    go_ret
    refine ⟨_, rfl, ?_, bl_trans (bl_trans hB (by go_grown)) hb2⟩
    rw [H.out]
    have e : (tils 64 (regSet rs)).map (fun x => [] ++ x) = tils 64 (regSet rs) := by simp
    rw [e] at o2
    exact o2.mono (by have := hB.size; simp; omega)
end Go.Proofs.Ytdcjhfmkkcakhaa

/-
  Contracts of the functions on laying (DominoAt, l32Reached, canLay, CanLay): what each returns, as a function of its arguments; nothing that was there is written; at most 1048576 dominoes.
-/
import Derived.Test.YtdcjhfmkkcakhaaPart
import Derived.Test.YtdcjhfmkkcakhaaReach
import Derived.Test.YtdcjhfmkkcakhaaChanged
namespace Go.Proofs.Ytdcjhfmkkcakhaa
open Go.ChangeShapes Go.WideShapes Go.ChangeAt Go.RowKit Go.Deep
set_option linter.unusedVariables false

theorem insD_mem {out : List Dm} {d e : Dm} : e ∈ insD out d ↔ e = d ∨ e ∈ out := by
  unfold insD
  have hp := posD_le out d out.length
  split
  · rename_i h
    constructor
    · exact .inr
    · rintro (rfl | h2)
      · have hi : posD out e out.length - 1 < out.length := by omega
        have : out[posD out e out.length - 1]? = some (dAt out (posD out e out.length - 1)) := by
          unfold dAt; rw [List.getElem?_eq_getElem hi]; rfl
        rw [h.2] at this
        exact List.mem_of_getElem? this
      · exact h2
  · rw [List.mem_append, List.mem_cons]
    constructor
    · rintro (h | h | h)
      · exact .inr (List.mem_of_mem_take h)
      · exact .inl h
      · exact .inr (List.mem_of_mem_drop h)
    · rintro (h | h)
      · exact .inr (.inl h)
      · rw [← List.take_append_drop (posD out d out.length) out, List.mem_append] at h
        rcases h with h | h
        · exact .inl h
        · exact .inr (.inr h)
theorem foldD_mem {e : Dm} (l : List Dm) : ∀ out : List Dm, e ∈ l.foldl addD out ↔ (e ∈ l ∧ okD e = true) ∨ e ∈ out := by
  induction l with
  | nil => intro out; simp
  | cons d l ih =>
    intro out
    rw [List.foldl_cons, ih, List.mem_cons]
    unfold addD
    split
    · rename_i hd
      rw [insD_mem]
      constructor
      · rintro (h | rfl | h)
        · exact .inl ⟨.inr h.1, h.2⟩
        · exact .inl ⟨.inl rfl, hd⟩
        · exact .inr h
      · rintro (⟨rfl | h, h2⟩ | h)
        · exact .inr (.inl rfl)
        · exact .inl ⟨h, h2⟩
        · exact .inr (.inr h)
    · rename_i hd
      constructor
      · rintro (h | h)
        · exact .inl ⟨.inr h.1, h.2⟩
        · exact .inr h
      · rintro (⟨rfl | h, h2⟩ | h)
        · exact absurd h2 hd
        · exact .inl ⟨h, h2⟩
        · exact .inr h
theorem sortD_mem {e : Dm} {l : List Dm} : e ∈ sortD l ↔ e ∈ l ∧ okD e = true := by unfold sortD; rw [foldD_mem]; simp
theorem covFold_bit (i : Nat) : ∀ (l : List Dm) (s : Nat), (l.foldl covStep s).testBit i = (s.testBit i || decide (∃ d ∈ l, okD d = true ∧ (ownD d).testBit i = true)) := by
  intro l
  induction l with
  | nil => intro s; simp
  | cons d l ih =>
    intro s
    rw [List.foldl_cons, ih]
    unfold covStep
    split
    · rename_i hd
      rw [Nat.testBit_or, Bool.or_assoc]
      congr 1
      rw [Bool.eq_iff_iff]
      simp only [Bool.or_eq_true, decide_eq_true_eq, List.mem_cons]
      constructor
      · rintro (h | ⟨e, he, h⟩)
        · exact ⟨d, .inl rfl, hd, h⟩
        · exact ⟨e, .inr he, h⟩
      · rintro ⟨e, rfl | he, h⟩
        · exact .inl h.2
        · exact .inr ⟨e, he, h⟩
    · rename_i hd
      congr 1
      apply decide_eq_decide.2
      simp only [List.mem_cons]
      constructor
      · rintro ⟨e, he, h⟩; exact ⟨e, .inr he, h⟩
      · rintro ⟨e, rfl | he, h⟩
        · exact absurd h.1 hd
        · exact ⟨e, he, h⟩
theorem covers_bit (l : List Dm) (i : Nat) : (covers l).testBit i = decide (∃ d ∈ l, okD d = true ∧ (ownD d).testBit i = true) := by
  unfold covers; rw [covFold_bit]; simp
theorem covers_sort (l : List Dm) : covers (sortD l) = covers l := by
  apply Nat.eq_of_testBit_eq; intro i
  rw [covers_bit, covers_bit]
  apply decide_eq_decide.2
  constructor
  · rintro ⟨d, hd, h⟩; exact ⟨d, (sortD_mem.1 hd).1, h⟩
  · rintro ⟨d, hd, h⟩; exact ⟨d, sortD_mem.2 ⟨hd, h.1⟩, h⟩
def overD (d : Dm) (c : Cl) : Bool := okD d && (decide ((d.1, d.2.1) = c) || decide ((sndX d.1 d.2.2, sndY d.2.1 d.2.2) = c))
def domAt : List Dm → Cl → Int → Int
  | [], _, _ => -1
  | d :: l, c, k => if overD d c then k else domAt l c (k + 1)
theorem over_bit {d : Dm} {c : Cl} (hc : cellOk c.1 c.2 = true) : overD d c = (okD d && (ownD d).testBit (idxN c)) := by
  unfold overD
  cases hd : okD d
  · rfl
  · rw [Bool.true_and, Bool.true_and]
    obtain ⟨k1, k2⟩ := domOk_cells hd
    have e : (ownD d).testBit (idxN c) = (decide (idxN (d.1, d.2.1) = idxN c) || decide (idxN (sndX d.1 d.2.2, sndY d.2.1 d.2.2) = idxN c)) := by
      unfold ownD setD
      rw [Nat.testBit_or, nthBit_test, nthBit_test]; rfl
    rw [e, Bool.eq_iff_iff]
    simp only [Bool.or_eq_true, decide_eq_true_eq]
    constructor
    · rintro (h | h)
      · exact .inl (by rw [h])
      · exact .inr (by rw [h])
    · rintro (h | h)
      · exact .inl (idxN_inj k1 hc h)
      · exact .inr (idxN_inj k2 hc h)
theorem domAt_neg {c : Cl} (hc : cellOk c.1 c.2 = true) : ∀ (l : List Dm) (k : Int), 0 ≤ k → (domAt l c k < 0 ↔ (covers l).testBit (idxN c) = false) := by
  have key : ∀ (l : List Dm) (k : Int), 0 ≤ k → (domAt l c k < 0 ↔ ∀ d ∈ l, overD d c = false) := by
    intro l
    induction l with
    | nil => intro k _; simp [domAt]
    | cons d l ih =>
      intro k hk
      rw [domAt]
      cases ho : overD d c
      · rw [if_neg (by decide), ih (k + 1) (by omega)]
        simp [ho]
      · rw [if_pos rfl]
        simp [ho]; omega
  intro l k hk
  rw [key l k hk, covers_bit, decide_eq_false_iff_not]
  constructor
  · rintro h ⟨d, hd, h1, h2⟩
    have := h d hd
    rw [over_bit hc, h1, h2] at this; cases this
  · intro h d hd
    rw [over_bit hc]
    cases h1 : okD d
    · rfl
    · cases h2 : (ownD d).testBit (idxN c)
      · rfl
      · exact absurd ⟨d, hd, h1, h2⟩ h
set_option maxRecDepth 100000 in
set_option maxHeartbeats 1000000 in
theorem DominoAt_any (A : Option Addr) (N c : Nat) (l : List Dm) (cx cy : Int) (w : World) (hN : N = l.length) (hl : N ≤ 1048576) (hr : RdD w A l) :
    Calls Try.prog 208 #[.slice A N c, .agg #[.int .i64 cx, .int .i64 cy]] w fun e w' => e = .returned (.int .i64 (domAt l (cx, cy) 0)) ∧ Below w.heap.size w w' := by
  have HN := Lib.hid hN
  have hr' := Lib.hid hr
  have P0 := Blk.new w 35 [.int .i64 cx, .int .i64 cy]
  have he := eq_cell
  clear hN hr
  go_enter Try.func208, Try.ntmps208
  go_wp2_with fail
  go_loopw [5] (fun q wr => ∃ k : Nat, k ≤ N ∧ q = .int .i64 k ∧ Hid (domAt l (cx, cy) 0 = domAt (l.drop k) (cx, cy) k) ∧ Hid (Blk wr w.heap.size 35 [.int .i64 cx, .int .i64 cy]) ∧ Below w.heap.size w wr) (fun q _ => N - (intOf q).toNat)
  case atStart => exact ⟨0, by omega, rfl, Lib.hid rfl, Lib.hid P0, by go_grown⟩
  case round =>
    obtain ⟨k, hk, rfl, H, HP, hB⟩ := hrel
    clear P0
    have P := HP.out
    by_cases hlt : k < N
    · obtain ⟨b, off, x, y, z, rfl, hbl, hv, hd, _, _, c0, c1, c2⟩ := (hr'.out.below hB).at_ (k := k) (by have := HN.out; omega)
      have hs : domAt l (cx, cy) 0 = if overD (x, y, z) (cx, cy) then (k : Int) else domAt (l.drop (k + 1)) (cx, cy) (k + 1) := by rw [H.out, hd, domAt]
      have Hs := Lib.hid hs
      clear hv hd hs
      cases c3 : domOk x y z
      · have OK := Lib.hid c3
        have H2 := Lib.hid (show domAt l (cx, cy) 0 = domAt (l.drop (k + 1)) (cx, cy) (k + 1) by
          rw [Hs.out, if_neg (by unfold overD okD; dsimp only; rw [c3]; simp)])
        clear c3
        go_wp2_with (go_at_call 168; refine (DominoOk_s x y z _).mono ?_; rintro e wn ⟨rfl, hbn⟩; have hSz := bl_sz (bl_trans hB (by go_grown)) hbn; replace hB := bl_trans (bl_trans hB (by go_grown)) hbn; replace P := P.bel (bl_trans (by go_grown) hbn); replace Pc := P.c2; rw [OK.out]; clear hbn)
        go_roundw
        case rel => exact ⟨k + 1, by omega, by go_num, H2, Lib.hid P, hB⟩
        case measure => simp [intOf]; omega
      · have OK := Lib.hid c3
        have hov : overD (x, y, z) (cx, cy) = ((x == cx && y == cy) || (sndX x z == cx && sndY y z == cy)) := by
          unfold overD okD; dsimp only; rw [c3, Bool.true_and]
          rw [Bool.eq_iff_iff]; simp
        have Hov := Lib.hid hov
        clear hov
        have k0 := Lib.hid c0
        have k1 := Lib.hid c1
        have k2 := Lib.hid c2
        cases t1 : (x == cx && y == cy)
        · cases t2 : (sndX x z == cx && sndY y z == cy)
          · have H2 := Lib.hid (show domAt l (cx, cy) 0 = domAt (l.drop (k + 1)) (cx, cy) (k + 1) by
              rw [Hs.out, Hov.out, t1, t2]; rfl)
            clear c3
            go_wp2_with (go_at_call 168; refine (DominoOk_s x y z _).mono ?_; rintro e wn ⟨rfl, hbn⟩; have hSz := bl_sz (bl_trans hB (by go_grown)) hbn; replace hB := bl_trans (bl_trans hB (by go_grown)) hbn; replace P := P.bel (bl_trans (by go_grown) hbn); replace Pc := P.c2; rw [OK.out]; replace c0 := (hbn.cell (p := ⟨b, off + k * 3, none⟩) hbl).trans c0; replace c1 := (hbn.cell (p := ⟨b, off + k * 3 + 1, none⟩) hbl).trans c1; replace c2 := (hbn.cell (p := ⟨b, off + k * 3 + 2, none⟩) hbl).trans c2; clear hbn)
            (refine (CellsUnder_yes x y z _ OK.out).mono ?_; rintro e wn ⟨rfl, hbn⟩; have hSz := bl_sz (bl_trans hB (by go_grown)) hbn; replace hB := bl_trans (bl_trans hB (by go_grown)) hbn; replace P := P.bel (bl_trans (by go_grown) hbn); replace Pc := P.c2; have hwn := hB.size; (have E := (Blk.new wn 35 [.int .i64 x, .int .i64 y]).alloc (.cells #[.int .i64 (sndX x z), .int .i64 (sndY y z)] 35); have Ec := E.c2; have F := Blk.new2 wn (.cells #[.int .i64 x, .int .i64 y] 35) 35 [.int .i64 (sndX x z), .int .i64 (sndY y z)]; have Fc := F.c2); replace P := (P.alloc (.cells #[.int .i64 x, .int .i64 y] 35)).alloc (.cells #[.int .i64 (sndX x z), .int .i64 (sndY y z)] 35); replace Pc := P.c2; clear hbn)
            go_wp2_with fail
            go_roundw
            case rel => exact ⟨k + 1, by omega, by go_num, H2, Lib.hid P, bl_trans hB (by go_grown)⟩
            case measure => simp [intOf]; omega
          · have H2 := Lib.hid (show domAt l (cx, cy) 0 = (k : Int) by
              rw [Hs.out, Hov.out, t1, t2]; rfl)
            clear c3
            go_wp2_with (go_at_call 168; refine (DominoOk_s x y z _).mono ?_; rintro e wn ⟨rfl, hbn⟩; have hSz := bl_sz (bl_trans hB (by go_grown)) hbn; replace hB := bl_trans (bl_trans hB (by go_grown)) hbn; replace P := P.bel (bl_trans (by go_grown) hbn); replace Pc := P.c2; rw [OK.out]; replace c0 := (hbn.cell (p := ⟨b, off + k * 3, none⟩) hbl).trans c0; replace c1 := (hbn.cell (p := ⟨b, off + k * 3 + 1, none⟩) hbl).trans c1; replace c2 := (hbn.cell (p := ⟨b, off + k * 3 + 2, none⟩) hbl).trans c2; clear hbn)
            (refine (CellsUnder_yes x y z _ OK.out).mono ?_; rintro e wn ⟨rfl, hbn⟩; have hSz := bl_sz (bl_trans hB (by go_grown)) hbn; replace hB := bl_trans (bl_trans hB (by go_grown)) hbn; replace P := P.bel (bl_trans (by go_grown) hbn); replace Pc := P.c2; have hwn := hB.size; (have E := (Blk.new wn 35 [.int .i64 x, .int .i64 y]).alloc (.cells #[.int .i64 (sndX x z), .int .i64 (sndY y z)] 35); have Ec := E.c2; have F := Blk.new2 wn (.cells #[.int .i64 x, .int .i64 y] 35) 35 [.int .i64 (sndX x z), .int .i64 (sndY y z)]; have Fc := F.c2); replace P := (P.alloc (.cells #[.int .i64 x, .int .i64 y] 35)).alloc (.cells #[.int .i64 (sndX x z), .int .i64 (sndY y z)] 35); replace Pc := P.c2; clear hbn)
            go_wp2_with fail
            go_ret
            exact ⟨ret_int (by rw [H2.out]), bl_trans hB (by go_grown)⟩
        · have H2 := Lib.hid (show domAt l (cx, cy) 0 = (k : Int) by
            rw [Hs.out, Hov.out, t1]; rfl)
          clear c3
          go_wp2_with (go_at_call 168; refine (DominoOk_s x y z _).mono ?_; rintro e wn ⟨rfl, hbn⟩; have hSz := bl_sz (bl_trans hB (by go_grown)) hbn; replace hB := bl_trans (bl_trans hB (by go_grown)) hbn; replace P := P.bel (bl_trans (by go_grown) hbn); replace Pc := P.c2; rw [OK.out]; replace c0 := (hbn.cell (p := ⟨b, off + k * 3, none⟩) hbl).trans c0; replace c1 := (hbn.cell (p := ⟨b, off + k * 3 + 1, none⟩) hbl).trans c1; replace c2 := (hbn.cell (p := ⟨b, off + k * 3 + 2, none⟩) hbl).trans c2; clear hbn)
          (refine (CellsUnder_yes x y z _ OK.out).mono ?_; rintro e wn ⟨rfl, hbn⟩; have hSz := bl_sz (bl_trans hB (by go_grown)) hbn; replace hB := bl_trans (bl_trans hB (by go_grown)) hbn; replace P := P.bel (bl_trans (by go_grown) hbn); replace Pc := P.c2; have hwn := hB.size; (have E := (Blk.new wn 35 [.int .i64 x, .int .i64 y]).alloc (.cells #[.int .i64 (sndX x z), .int .i64 (sndY y z)] 35); have Ec := E.c2; have F := Blk.new2 wn (.cells #[.int .i64 x, .int .i64 y] 35) 35 [.int .i64 (sndX x z), .int .i64 (sndY y z)]; have Fc := F.c2); replace P := (P.alloc (.cells #[.int .i64 x, .int .i64 y] 35)).alloc (.cells #[.int .i64 (sndX x z), .int .i64 (sndY y z)] 35); replace Pc := P.c2; clear hbn)
          go_wp2_with fail
          go_ret
          exact ⟨ret_int (by rw [H2.out]), bl_trans hB (by go_grown)⟩
    · have H2 := Lib.hid (show domAt l (cx, cy) 0 = -1 by rw [H.out, List.drop_eq_nil_of_le (by have := HN.out; omega)]; rfl)
      go_wp2_with fail
      go_ret
      exact ⟨ret_int (by rw [H2.out]), hB⟩
def reachedS (rs : List Int) (laid : List Dm) (c : Cl) : Nat := if (covers laid).testBit (idxN c) then 0 else setL (reachL (bdiff (regSet rs) (covers laid)) c)
theorem InC.set_ {lo hi : Nat} {w : World} {v : Value} {l : List Cl} (h : InC lo hi w v l) {p : Addr} (hp : p.block < lo) (u : Value) : InC lo hi (w.setCell p u) v l := ⟨h.1.set' hp u, h.2⟩
def canLayB (free : Nat) (c : Cl) (d : Dm) : Bool := okD d && free.testBit (idxN c) && (setL (reachL free c) &&& ownD d == ownD d)
def canLayR (rs : List Int) (c : Cl) (laid : List Dm) (d : Dm) : Bool := (regOk rs && cellOk c.1 c.2 && regHas rs c.1 c.2) && isPartial rs (sortD laid) && canLayB (bdiff (regSet rs) (covers laid)) c d
theorem takeH_ {P : Program} {md : Region.Mode} {ops : Array Oper} {Q : Exit → Act → World → Prop} {S : World → Prop} {i : Nat} {oi : Oper} {d : Option Tmp} {v : Value} {fuel : Nat} {listed : Array Bool} {a : Act} {w : World} (hi : ops[i]? = some oi) (hd : oi.dst = d)
    (hs : Region.noSelect ops = true) (hf : Region.free md ops listed i = true) (hr : (Region.ready md ops listed).contains i = true)
    (hQ : ∀ c a w, Q (.panic c) (a.put d v) w → Q (.panic c) a w) (hy : YieldsIf P ops S oi v a) (hS : S w)
    (h : wpAnyH P md ops Q S fuel (listed.setIfInBounds i true) (a.put d v) w) : wpAnyH P md ops Q S (fuel + 1) listed a w := by
  subst hd; exact wpAnyH_take hi hs hf hr hQ hy hS h
theorem covered_N (A : Option Addr) (N c : Nat) (l : List Dm) (w : World) (hN : N = l.length) (hl : N ≤ 1048576) (hr : RdD w A l) :
    Calls Try.prog 117 #[.slice A N c] w fun e w' => e = .returned (.int .u64 (covers l)) ∧ Below w.heap.size w w' := by
  subst hN; exact covered_any A c l w hl hr
set_option maxRecDepth 100000 in
set_option maxHeartbeats 1000000 in
theorem canLay_any (s : Nat) (x y u v : Int) (z : Bool) (w : World) (hs : s < 18446744073709551616) (h : cellOk x y = true) :
    Calls Try.prog 171 #[.int .u64 s, .agg #[.int .i64 x, .int .i64 y], .agg #[.int .i64 u, .int .i64 v, .bool z]] w fun e w' => e = .returned (.bool (canLayB s (x, y) (u, v, z))) ∧ Below w.heap.size w w' := by
  (have hB := Below.refl w.heap.size w; have P := (Blk.new w 35 [.int .i64 x, .int .i64 y]).alloc (.cells #[.int .i64 u, .int .i64 v, .bool z] 53); have Pc := P.c2; have Q := Blk.new2 w (.cells #[.int .i64 x, .int .i64 y] 35) 53 [.int .i64 u, .int .i64 v, .bool z]; have Qc := Q.c3)
  have hb : hasBit s x y = s.testBit (idxN (x, y)) := by unfold hasBit; rw [h]; rfl
  cases c1 : domOk u v z
  · have C1 := Lib.hid c1
    have H := Lib.hid (show canLayB s (x, y) (u, v, z) = false by unfold canLayB okD; dsimp only; rw [c1]; rfl)
    clear c1
    go_enter Try.func171, Try.ntmps171
    go_wp2_with (go_at_call 143; refine (DominoOk_i u v z _).mono ?_; rintro e wn ⟨rfl, hbn⟩; have hSz := bl_sz (bl_trans hB (by go_grown)) hbn; replace hB := bl_trans (bl_trans hB (by go_grown)) hbn; replace P := P.bel (bl_trans (by go_grown) hbn); replace Pc := P.c2; replace Q := Q.bel (bl_trans (by go_grown) hbn); replace Qc := Q.c3; rw [C1.out]; clear hbn)
    go_ret
    exact ⟨ret_bool (by rw [H.out]), hB⟩
  · cases c2 : s.testBit (idxN (x, y))
    · have C1 := Lib.hid c1
      have C2 := Lib.hid (hb.trans c2)
      have H := Lib.hid (show canLayB s (x, y) (u, v, z) = false by unfold canLayB okD; dsimp only; rw [c1, c2]; rfl)
      clear c1 c2 hb
      go_enter Try.func171, Try.ntmps171
      go_wp2_with (first | (go_at_call 143; refine (DominoOk_i u v z _).mono ?_; rintro e wn ⟨rfl, hbn⟩; have hSz := bl_sz (bl_trans hB (by go_grown)) hbn; replace hB := bl_trans (bl_trans hB (by go_grown)) hbn; replace P := P.bel (bl_trans (by go_grown) hbn); replace Pc := P.c2; replace Q := Q.bel (bl_trans (by go_grown) hbn); replace Qc := Q.c3; rw [C1.out]; clear hbn) | (go_at_call 126; refine (has_any s x y _ hs).mono ?_; rintro e wn ⟨rfl, hbn⟩; have hSz := bl_sz (bl_trans hB (by go_grown)) hbn; replace hB := bl_trans (bl_trans hB (by go_grown)) hbn; replace P := P.bel (bl_trans (by go_grown) hbn); replace Pc := P.c2; replace Q := Q.bel (bl_trans (by go_grown) hbn); replace Qc := Q.c3; rw [C2.out]; clear hbn))
      go_ret
      exact ⟨ret_bool (by rw [H.out]), hB⟩
    · have C1 := Lib.hid c1
      have C2 := Lib.hid (hb.trans c2)
      obtain ⟨o, ho⟩ : ∃ o, o = ownD (u, v, z) := ⟨_, rfl⟩
      have hol : o < 18446744073709551616 := ho ▸ ownD_lt c1
      obtain ⟨R, hR⟩ : ∃ R, R = setL (reachL s (x, y)) := ⟨_, rfl⟩
      have hRl : R < 18446744073709551616 := hR ▸ setL_lt (fun c hc => (reachL_wf s h).ok c hc)
      have H := Lib.hid (show canLayB s (x, y) (u, v, z) = (R &&& o == o) by unfold canLayB okD; dsimp only; rw [c1, c2, ← hR, ← ho]; rfl)
      have HR := Lib.hid hR
      have HO := Lib.hid ho
      have hand := Lib.hid (u64_and_nat R o hRl hol)
      clear c1 c2 hb hR ho
      go_enter Try.func171, Try.ntmps171
      go_wp2_with (first | (go_at_call 143; refine (DominoOk_i u v z _).mono ?_; rintro e wn ⟨rfl, hbn⟩; have hSz := bl_sz (bl_trans hB (by go_grown)) hbn; replace hB := bl_trans (bl_trans hB (by go_grown)) hbn; replace P := P.bel (bl_trans (by go_grown) hbn); replace Pc := P.c2; replace Q := Q.bel (bl_trans (by go_grown) hbn); replace Qc := Q.c3; rw [C1.out]; clear hbn) | (go_at_call 126; refine (has_any s x y _ hs).mono ?_; rintro e wn ⟨rfl, hbn⟩; have hSz := bl_sz (bl_trans hB (by go_grown)) hbn; replace hB := bl_trans (bl_trans hB (by go_grown)) hbn; replace P := P.bel (bl_trans (by go_grown) hbn); replace Pc := P.c2; replace Q := Q.bel (bl_trans (by go_grown) hbn); replace Qc := Q.c3; rw [C2.out]; clear hbn) | (go_at_call 190; refine (dset_d _ _ _ o _ C1.out HO.out.symm).mono ?_; rintro e wn ⟨rfl, hbn⟩; have hSz := bl_sz (bl_trans hB (by go_grown)) hbn; replace hB := bl_trans (bl_trans hB (by go_grown)) hbn; replace P := P.bel (bl_trans (by go_grown) hbn); replace Pc := P.c2; replace Q := Q.bel (bl_trans (by go_grown) hbn); replace Qc := Q.c3; skip; clear hbn) | (go_at_call 158; refine (reach_any s x y _ hs h).mono ?_; rintro e wn ⟨rfl, hbn⟩; have hSz := bl_sz (bl_trans hB (by go_grown)) hbn; replace hB := bl_trans (bl_trans hB (by go_grown)) hbn; replace P := P.bel (bl_trans (by go_grown) hbn); replace Pc := P.c2; replace Q := Q.bel (bl_trans (by go_grown) hbn); replace Qc := Q.c3; rw [← HR.out]; clear hbn))
      go_ret
      exact ⟨ret_bool (by rw [H.out, hand.out, Bool.eq_iff_iff]; simp <;> omega), hB⟩
set_option maxRecDepth 100000 in
set_option maxHeartbeats 2000000 in
theorem CanLay_i (A : Option Addr) (c : Nat) (rs : List Int) (x y : Int) (B : Option Addr) (N d : Nat) (laid : List Dm) (u v : Int) (z : Bool) (w : World) (hl : rs.length ≤ 1048576) (hN : N = laid.length) (hl2 : N ≤ 1048576) (hr : RdI w A rs) (hs : RdD w B laid) :
    Calls Try.prog 83 #[.agg #[.slice A rs.length c], .agg #[.int .i64 x, .int .i64 y], .slice B N d, .agg #[.int .i64 u, .int .i64 v, .bool z]] w fun e w' => e = .returned (.bool (canLayR rs (x, y) laid (u, v, z))) ∧ Below w.heap.size w w' := by
  have hr' := Lib.hid hr
  have hs' := Lib.hid hs
  have HN := Lib.hid hN
  have hB := bl_alloc (bl_alloc (bl_alloc (Below.refl w.heap.size w) (.cells #[.slice A rs.length c] 31)) (.cells #[.int .i64 x, .int .i64 y] 35)) (.cells #[.int .i64 u, .int .i64 v, .bool z] 53)
  have P := ((Blk.new w 31 [.slice A rs.length c]).alloc (.cells #[.int .i64 x, .int .i64 y] 35)).alloc (.cells #[.int .i64 u, .int .i64 v, .bool z] 53)
  have Q := (Blk.new2 w (.cells #[.slice A rs.length c] 31) 35 [.int .i64 x, .int .i64 y]).alloc (.cells #[.int .i64 u, .int .i64 v, .bool z] 53)
  have D := Blk.new3 w (.cells #[.slice A rs.length c] 31) (.cells #[.int .i64 x, .int .i64 y] 35) 53 [.int .i64 u, .int .i64 v, .bool z]
  have Pc := P.c1
  have Qc := Q.c2
  have Dc := D.c3
  have hsl : (sortD laid).length ≤ 1048576 := by have := sortD_len laid; omega
  have HC := Lib.hid hsl
  clear hr hs hN hsl
  cases c1 : (regOk rs && cellOk x y && regHas rs x y)
  · have C1 := Lib.hid c1
    have H := Lib.hid (show canLayR rs (x, y) laid (u, v, z) = false by unfold canLayR; dsimp only; rw [c1]; rfl)
    clear c1
    go_enter Try.func83, Try.ntmps83
    go_wp2_with fail
    have p0 := bq_cell Pc
    have q0 := bq_cell Qc.1
    have q1 := bq_cell Qc.2
    (refine wp_region_quiet_bel (by kernel_rfl) (by kernel_rfl) ?_; (repeat (first | go_big_quiet_step ((go_at_call 163; exact Calls.bel_of ((HasCell_i A c rs x y _ hl (hr'.out.below (bl_trans hB (BelowOf.bel _)))).mono (fun e w' h => ⟨h.1.trans (ret_bool C1.out), h.2⟩)))) | quiet_step ((go_at_call 163; exact Calls.bel_of ((HasCell_i A c rs x y _ hl (hr'.out.below (bl_trans hB (BelowOf.bel _)))).mono (fun e w' h => ⟨h.1.trans (ret_bool C1.out), h.2⟩)))))); refine wpQuiet_nil ?_; intro wq hw0; obtain ⟨⟨_, hbq⟩, hw1⟩ := hw0; subst hw1; try dsimp only)
    go_wp2_with fail
    go_ret
    exact ⟨ret_bool (by rw [H.out]), bl_trans hB hbq⟩
  · obtain ⟨⟨hreg, hok⟩, _⟩ : (regOk rs = true ∧ cellOk x y = true) ∧ regHas rs x y = true := by simpa using c1
    cases c2 : isPartial rs (sortD laid)
    · have C1 := Lib.hid c1
      have C2 := Lib.hid c2
      have H := Lib.hid (show canLayR rs (x, y) laid (u, v, z) = false by unfold canLayR; dsimp only; rw [c1, c2]; rfl)
      clear c1 c2
      go_enter Try.func83, Try.ntmps83
      go_wp2_with fail
      refine wp_region_held_drew (S := (fun w' : World => w'.cell? ⟨w.heap.size, 0, none⟩ = some (.slice A rs.length c) ∧ w'.cell? ⟨w.heap.size + 1, 0, none⟩ = some (.int .i64 x) ∧ w'.cell? ⟨w.heap.size + 1, 1, none⟩ = some (.int .i64 y))) (by kernel_rfl) ?_ (fun hHeld => ?_)
      · (try dsimp only); go_keep
      refine takeH_ (i := 0) (d := some 9) (v := ?v0) rfl rfl (by kernel_rfl) (by kernel_rfl) (by kernel_rfl) (fun _ _ _ h => h) (Or.inl ⟨by rfl, ?hy0⟩) (by assumption) ?rest0
      case hy0 => (intro w hSw; (try dsimp only at hSw); go_simp; first | done | with_reducible rfl)
      (try simp only [Act.put, List.setIfInBounds_toArray, List.set_cons_zero, List.set_cons_succ])
      refine takeH_ (i := 1) (d := some 10) (v := ?v1) rfl rfl (by kernel_rfl) (by kernel_rfl) (by kernel_rfl) (fun _ _ _ h => h) (Or.inl ⟨by rfl, ?hy1⟩) (by assumption) ?rest1
      case hy1 => (intro w hSw; (try dsimp only at hSw); go_simp; first | done | with_reducible rfl)
      (try simp only [Act.put, List.setIfInBounds_toArray, List.set_cons_zero, List.set_cons_succ])
      refine wpAnyH_ready (rs := [2]) (by kernel_rfl) (by simp) ?_
      refine AllReadyH.cons rfl (fun K hK => ?_) AllReadyH.nil
      go_simp
      (go_at_call 163; refine (HasCell_i A c rs x y _ hl (hr'.out.below (bl_trans hB (by go_grown)))).mono ?_; rintro e wn ⟨rfl, hbn⟩; have hSz := bl_sz (bl_trans hB (by go_grown)) hbn; replace hB := bl_trans (bl_trans hB (by go_grown)) hbn; replace P := P.bel (bl_trans (by go_grown) hbn); replace Pc := P.c1; replace Q := Q.bel (bl_trans (by go_grown) hbn); replace Qc := Q.c2; replace D := D.bel (bl_trans (by go_grown) hbn); replace Dc := D.c3; rw [C1.out]; clear hbn)
      refine hK.out _ _ ?_ (fun hHeld => ?_)
      · (try dsimp only); go_keep
      clear hK K
      (try simp only [Act.put, List.setIfInBounds_toArray, List.set_cons_zero, List.set_cons_succ])
      refine takeH_ (i := 3) (d := some 12) (v := ?v3) rfl rfl (by kernel_rfl) (by kernel_rfl) (by kernel_rfl) (fun _ _ _ h => h) (Or.inl ⟨by rfl, ?hy3⟩) (by assumption) ?rest3
      case hy3 => (intro w hSw; (try dsimp only at hSw); go_simp; first | done | with_reducible rfl)
      (try simp only [Act.put, List.setIfInBounds_toArray, List.set_cons_zero, List.set_cons_succ])
      refine takeH_ (i := 4) (d := some 13) (v := ?v4) rfl rfl (by kernel_rfl) (by kernel_rfl) (by kernel_rfl) (fun _ _ _ h => h) (Or.inl ⟨by rfl, ?hy4⟩) (by assumption) ?rest4
      case hy4 => (intro w hSw; (try dsimp only at hSw); go_simp; first | done | with_reducible rfl)
      (try simp only [Act.put, List.setIfInBounds_toArray, List.set_cons_zero, List.set_cons_succ])
      refine takeH_ (i := 5) (d := some 14) (v := ?v5) rfl rfl (by kernel_rfl) (by kernel_rfl) (by kernel_rfl) (fun _ _ _ h => h) (Or.inl ⟨by rfl, ?hy5⟩) (by assumption) ?rest5
      case hy5 => (intro w hSw; (try dsimp only at hSw); go_simp; first | done | with_reducible rfl)
      (try simp only [Act.put, List.setIfInBounds_toArray, List.set_cons_zero, List.set_cons_succ])
      refine wpAnyH_ready (rs := [6]) (by kernel_rfl) (by simp) ?_
      refine AllReadyH.cons rfl (fun K hK => ?_) AllReadyH.nil
      go_simp
      (go_at_call 167; refine (SortDominoes_i B N d laid _ HN.out hl2 (hs'.out.below (bl_trans hB (by go_grown)))).mono ?_; rintro e wn ⟨v1, rfl, o1, hbn⟩; have hSz := bl_sz (bl_trans hB (by go_grown)) hbn; replace hB := bl_trans (bl_trans hB (by go_grown)) hbn; replace P := P.bel (bl_trans (by go_grown) hbn); replace Pc := P.c1; replace Q := Q.bel (bl_trans (by go_grown) hbn); replace Qc := Q.c2; replace D := D.bel (bl_trans (by go_grown) hbn); replace Dc := D.c3; obtain ⟨⟨A1, c9, rfl⟩, _⟩ := id o1; have O1 := Lib.hid o1; clear o1; clear hbn)
      refine hK.out _ _ ?_ (fun hHeld => ?_)
      · (try dsimp only); go_keep
      clear hK K
      (try simp only [Act.put, List.setIfInBounds_toArray, List.set_cons_zero, List.set_cons_succ])
      refine wpAnyH_ready (rs := [7]) (by kernel_rfl) (by simp) ?_
      refine AllReadyH.cons rfl (fun K hK => ?_) AllReadyH.nil
      go_simp
      (go_at_call 170; refine (IsPartial_i A c rs _ _ _ (sortD laid) _ hl rfl HC.out (hr'.out.below (bl_trans hB (by go_grown))) (O1.out.rd.below (by go_grown))).mono ?_; rintro e wn ⟨rfl, hbn⟩; have hSz := bl_sz (bl_trans hB (by go_grown)) hbn; replace hB := bl_trans (bl_trans hB (by go_grown)) hbn; replace P := P.bel (bl_trans (by go_grown) hbn); replace Pc := P.c1; replace Q := Q.bel (bl_trans (by go_grown) hbn); replace Qc := Q.c2; replace D := D.bel (bl_trans (by go_grown) hbn); replace Dc := D.c3; rw [C2.out]; clear hbn)
      refine hK.out _ _ ?_ (fun hHeld => ?_)
      · (try dsimp only); go_keep
      clear hK K
      (try simp only [Act.put, List.setIfInBounds_toArray, List.set_cons_zero, List.set_cons_succ])
      refine takeH_ (i := 8) (d := some 17) (v := ?v8) rfl rfl (by kernel_rfl) (by kernel_rfl) (by kernel_rfl) (fun _ _ _ h => h) (Or.inl ⟨by rfl, ?hy8⟩) (by assumption) ?rest8
      case hy8 => (intro w hSw; (try dsimp only at hSw); go_simp; first | done | with_reducible rfl)
      (try simp only [Act.put, List.setIfInBounds_toArray, List.set_cons_zero, List.set_cons_succ])
      refine takeH_ (i := 9) (d := some 18) (v := ?v9) rfl rfl (by kernel_rfl) (by kernel_rfl) (by kernel_rfl) (fun _ _ _ h => h) (Or.inl ⟨by rfl, ?hy9⟩) (by assumption) ?rest9
      case hy9 => (intro w hSw; (try dsimp only at hSw); go_simp; first | done | with_reducible rfl)
      (try simp only [Act.put, List.setIfInBounds_toArray, List.set_cons_zero, List.set_cons_succ])
      refine takeH_ (i := 10) (d := some 19) (v := undef) rfl rfl (by kernel_rfl) (by kernel_rfl) (by kernel_rfl) (fun _ _ _ h => h) (Or.inr ⟨by rfl, rfl⟩) (by assumption) ?_
      (try simp only [Act.put, List.setIfInBounds_toArray, List.set_cons_zero, List.set_cons_succ])
      refine takeH_ (i := 11) (d := some 20) (v := undef) rfl rfl (by kernel_rfl) (by kernel_rfl) (by kernel_rfl) (fun _ _ _ h => h) (Or.inr ⟨by rfl, rfl⟩) (by assumption) ?_
      (try simp only [Act.put, List.setIfInBounds_toArray, List.set_cons_zero, List.set_cons_succ])
      refine takeH_ (i := 12) (d := some 21) (v := undef) rfl rfl (by kernel_rfl) (by kernel_rfl) (by kernel_rfl) (fun _ _ _ h => h) (Or.inr ⟨by rfl, rfl⟩) (by assumption) ?_
      (try simp only [Act.put, List.setIfInBounds_toArray, List.set_cons_zero, List.set_cons_succ])
      refine takeH_ (i := 13) (d := some 22) (v := undef) rfl rfl (by kernel_rfl) (by kernel_rfl) (by kernel_rfl) (fun _ _ _ h => h) (Or.inr ⟨by rfl, rfl⟩) (by assumption) ?_
      (try simp only [Act.put, List.setIfInBounds_toArray, List.set_cons_zero, List.set_cons_succ])
      refine takeH_ (i := 14) (d := some 23) (v := undef) rfl rfl (by kernel_rfl) (by kernel_rfl) (by kernel_rfl) (fun _ _ _ h => h) (Or.inr ⟨by rfl, rfl⟩) (by assumption) ?_
      (try simp only [Act.put, List.setIfInBounds_toArray, List.set_cons_zero, List.set_cons_succ])
      refine takeH_ (i := 15) (d := some 24) (v := undef) rfl rfl (by kernel_rfl) (by kernel_rfl) (by kernel_rfl) (fun _ _ _ h => h) (Or.inr ⟨by rfl, rfl⟩) (by assumption) ?_
      (try simp only [Act.put, List.setIfInBounds_toArray, List.set_cons_zero, List.set_cons_succ])
      refine takeH_ (i := 16) (d := some 25) (v := undef) rfl rfl (by kernel_rfl) (by kernel_rfl) (by kernel_rfl) (fun _ _ _ h => h) (Or.inr ⟨by rfl, rfl⟩) (by assumption) ?_
      (try simp only [Act.put, List.setIfInBounds_toArray, List.set_cons_zero, List.set_cons_succ])
      refine takeH_ (i := 17) (d := some 26) (v := undef) rfl rfl (by kernel_rfl) (by kernel_rfl) (by kernel_rfl) (fun _ _ _ h => h) (Or.inr ⟨by rfl, rfl⟩) (by assumption) ?_
      (try simp only [Act.put, List.setIfInBounds_toArray, List.set_cons_zero, List.set_cons_succ])
      refine takeH_ (i := 18) (d := some 27) (v := ?v18) rfl rfl (by kernel_rfl) (by kernel_rfl) (by kernel_rfl) (fun _ _ _ h => h) (Or.inl ⟨by rfl, ?hy18⟩) (by assumption) ?rest18
      case hy18 => (intro w hSw; (try dsimp only at hSw); go_simp; first | done | with_reducible rfl)
      (try simp only [Act.put, List.setIfInBounds_toArray, List.set_cons_zero, List.set_cons_succ])
      refine takeH_ (i := 19) (d := some 8) (v := ?v19) rfl rfl (by kernel_rfl) (by kernel_rfl) (by kernel_rfl) (fun _ _ _ h => h) (Or.inl ⟨by rfl, ?hy19⟩) (by assumption) ?rest19
      case hy19 => (intro w hSw; (try dsimp only at hSw); go_simp; first | done | with_reducible rfl)
      (try simp only [Act.put, List.setIfInBounds_toArray, List.set_cons_zero, List.set_cons_succ])
      refine wpAnyH_done (by kernel_rfl) ?_ _
      all_goals (go_wp2_with fail; go_ret; exact ⟨ret_bool (by rw [H.out]), hB⟩)
    · have C1 := Lib.hid c1
      have C2 := Lib.hid c2
      obtain ⟨cv, hcv⟩ : ∃ cv, cv = covers laid := ⟨_, rfl⟩
      obtain ⟨sr, hsr⟩ : ∃ sr, sr = regSet rs := ⟨_, rfl⟩
      have hcl : cv < 18446744073709551616 := hcv ▸ covers_lt laid
      have hsl : sr < 18446744073709551616 := hsr ▸ regSet_lt hreg
      have H := Lib.hid (show canLayR rs (x, y) laid (u, v, z) = canLayB (bdiff sr cv) (x, y) (u, v, z) by unfold canLayR; dsimp only; rw [c1, c2, ← hcv, ← hsr]; rfl)
      have HCV := Lib.hid hcv
      have HSR := Lib.hid hsr
      have hbd := bdiff_lt (b := cv) hsl
      have handn := u64_andNot_nat sr cv hsl hcl
      have HREG := Lib.hid hreg
      have HOK := Lib.hid hok
      clear c1 c2 hcv hsr hreg hok
      go_enter Try.func83, Try.ntmps83
      go_wp2_with fail
      go_region_held3 (fun w' => w'.cell? ⟨w.heap.size, 0, none⟩ = some (.slice A rs.length c) ∧ w'.cell? ⟨w.heap.size + 1, 0, none⟩ = some (.int .i64 x) ∧ w'.cell? ⟨w.heap.size + 1, 1, none⟩ = some (.int .i64 y) ∧ w'.cell? ⟨w.heap.size + 1 + 1, 0, none⟩ = some (.int .i64 u) ∧ w'.cell? ⟨w.heap.size + 1 + 1, 1, none⟩ = some (.int .i64 v) ∧ w'.cell? ⟨w.heap.size + 1 + 1, 2, none⟩ = some (.bool z)) (go_keep)
        (first | (go_at_call 163; refine (HasCell_i A c rs x y _ hl (hr'.out.below (bl_trans hB (by go_grown)))).mono ?_; rintro e wn ⟨rfl, hbn⟩; have hSz := bl_sz (bl_trans hB (by go_grown)) hbn; replace hB := bl_trans (bl_trans hB (by go_grown)) hbn; replace P := P.bel (bl_trans (by go_grown) hbn); replace Pc := P.c1; replace Q := Q.bel (bl_trans (by go_grown) hbn); replace Qc := Q.c2; replace D := D.bel (bl_trans (by go_grown) hbn); replace Dc := D.c3; rw [C1.out]; clear hbn) | (go_at_call 167; refine (SortDominoes_i B N d laid _ HN.out hl2 (hs'.out.below (bl_trans hB (by go_grown)))).mono ?_; rintro e wn ⟨v1, rfl, o1, hbn⟩; have hSz := bl_sz (bl_trans hB (by go_grown)) hbn; replace hB := bl_trans (bl_trans hB (by go_grown)) hbn; replace P := P.bel (bl_trans (by go_grown) hbn); replace Pc := P.c1; replace Q := Q.bel (bl_trans (by go_grown) hbn); replace Qc := Q.c2; replace D := D.bel (bl_trans (by go_grown) hbn); replace Dc := D.c3; obtain ⟨⟨A1, c9, rfl⟩, _⟩ := id o1; have O1 := Lib.hid o1; clear o1; clear hbn) | (go_at_call 170; refine (IsPartial_i A c rs _ _ _ (sortD laid) _ hl rfl HC.out (hr'.out.below (bl_trans hB (by go_grown))) (O1.out.rd.below (by go_grown))).mono ?_; rintro e wn ⟨rfl, hbn⟩; have hSz := bl_sz (bl_trans hB (by go_grown)) hbn; replace hB := bl_trans (bl_trans hB (by go_grown)) hbn; replace P := P.bel (bl_trans (by go_grown) hbn); replace Pc := P.c1; replace Q := Q.bel (bl_trans (by go_grown) hbn); replace Qc := Q.c2; replace D := D.bel (bl_trans (by go_grown) hbn); replace Dc := D.c3; rw [C2.out]; clear hbn) | (go_at_call 121; refine (rset_any A c rs _ HREG.out (hr'.out.below (bl_trans hB (by go_grown)))).mono ?_; rintro e wn ⟨rfl, hbn⟩; have hSz := bl_sz (bl_trans hB (by go_grown)) hbn; replace hB := bl_trans (bl_trans hB (by go_grown)) hbn; replace P := P.bel (bl_trans (by go_grown) hbn); replace Pc := P.c1; replace Q := Q.bel (bl_trans (by go_grown) hbn); replace Qc := Q.c2; replace D := D.bel (bl_trans (by go_grown) hbn); replace Dc := D.c3; rw [← HSR.out]; clear hbn) | (go_at_call 117; refine (covered_N B N d laid _ HN.out hl2 (hs'.out.below (bl_trans hB (by go_grown)))).mono ?_; rintro e wn ⟨rfl, hbn⟩; have hSz := bl_sz (bl_trans hB (by go_grown)) hbn; replace hB := bl_trans (bl_trans hB (by go_grown)) hbn; replace P := P.bel (bl_trans (by go_grown) hbn); replace Pc := P.c1; replace Q := Q.bel (bl_trans (by go_grown) hbn); replace Qc := Q.c2; replace D := D.bel (bl_trans (by go_grown) hbn); replace Dc := D.c3; rw [← HCV.out]; clear hbn) | (go_at_call 171; refine (canLay_any (bdiff sr cv) x y u v z _ hbd HOK.out).mono ?_; rintro e wn ⟨rfl, hbn⟩; have hSz := bl_sz (bl_trans hB (by go_grown)) hbn; replace hB := bl_trans (bl_trans hB (by go_grown)) hbn; replace P := P.bel (bl_trans (by go_grown) hbn); replace Pc := P.c1; replace Q := Q.bel (bl_trans (by go_grown) hbn); replace Qc := Q.c2; replace D := D.bel (bl_trans (by go_grown) hbn); replace Dc := D.c3; skip; clear hbn))
      all_goals (go_wp2_with fail; go_ret; exact ⟨ret_bool (by rw [H.out]), hB⟩)
theorem bfs_mem' {s : Nat} {d : Cl} (f : Nat) : ∀ {k : Nat} {L : List Cl}, d ∈ bfs s f k L → d ∈ L ∨ (cellOk d.1 d.2 = true ∧ s.testBit (idxN d) = true) := by
  have hfold : ∀ (l L : List Cl), d ∈ l.foldl addC L → d ∈ L ∨ d ∈ l := by
    intro l
    induction l with
    | nil => intro L h; exact .inl h
    | cons e l ih =>
      intro L h
      rcases ih _ h with h | h
      · unfold addC at h
        split at h
        · exact .inl h
        · rcases List.mem_append.1 h with h | h
          · exact .inl h
          · simp at h; exact .inr (by simp [h])
      · exact .inr (List.mem_cons_of_mem _ h)
  induction f with
  | zero => intro k L h; exact .inl h
  | succ f ih =>
    intro k L h
    rw [bfs] at h
    split at h
    · exact .inl h
    · rcases ih h with h | h
      · unfold grow at h
        rcases hfold _ _ h with h | h
        · exact .inl h
        · have := mem_cellsBy.1 h
          refine .inr ⟨this.1, ?_⟩
          have h2 := this.2
          simp only [Bool.and_eq_true] at h2
          first | exact h2.1 | exact h2.2
      · exact .inr h
theorem canLayB_bits {rs : List Int} {laid : List Dm} {x y u v : Int} {z : Bool} (hreg : regOk rs = true) (hc : cellOk x y = true) (hdoor : (regSet rs).testBit (idxN (x, y)) = true) (hd : okD (u, v, z) = true) :
    canLayB (bdiff (regSet rs) (covers laid)) (x, y) (u, v, z) = ((regSet rs).testBit (idxN (u, v)) && ((regSet rs).testBit (idxN (sndX u z, sndY v z)) && ((reachedS rs (sortD laid) (x, y)).testBit (idxN (u, v)) && (reachedS rs (sortD laid) (x, y)).testBit (idxN (sndX u z, sndY v z))))) := by
  have hSlt := regSet_lt hreg
  have hClt := covers_lt laid
  obtain ⟨k1, k2⟩ := domOk_cells hd
  unfold canLayB reachedS
  rw [covers_sort, hd, bdiff_bit hSlt hClt, hdoor]
  cases hcv : (covers laid).testBit (idxN (x, y))
  · simp only [Bool.true_and, Bool.not_false, Bool.false_eq_true, if_false]
    obtain ⟨R, hR⟩ : ∃ R, R = reachL (bdiff (regSet rs) (covers laid)) (x, y) := ⟨_, rfl⟩
    have hsub : ∀ c : Cl, cellOk c.1 c.2 = true → (setL R).testBit (idxN c) = true → (regSet rs).testBit (idxN c) = true := by
      intro c hcc h
      have hw : WfL (bdiff (regSet rs) (covers laid)) R := hR ▸ reachL_wf _ hc
      have h2 := setL_has (d := c) hw.ok hcc
      unfold hasBit at h2
      rw [hcc, Bool.true_and] at h2
      have h3 : decide (c ∈ R) = true := by rw [← h2]; exact h
      have h4 := of_decide_eq_true h3
      rw [hR] at h4
      rcases bfs_mem' 65 h4 with h5 | ⟨_, h5⟩
      · simp at h5; rw [h5]; exact hdoor
      · rw [bdiff_bit hSlt hClt, Bool.and_eq_true] at h5; exact h5.1
    rw [← hR]
    have own_bit : ∀ i, (ownD (u, v, z)).testBit i = (decide (idxN (u, v) = i) || decide (idxN (sndX u z, sndY v z) = i)) := by
      intro i
      unfold ownD setD
      rw [Nat.testBit_or, nthBit_test, nthBit_test]; rfl
    rw [Bool.eq_iff_iff, beq_iff_eq]
    simp only [Bool.and_eq_true]
    constructor
    · intro h
      have h1 : (setL R).testBit (idxN (u, v)) = true := by
        have := congrArg (fun n => n.testBit (idxN (u, v))) h
        simp only [Nat.testBit_and, own_bit] at this
        simpa using this
      have h2 : (setL R).testBit (idxN (sndX u z, sndY v z)) = true := by
        have := congrArg (fun n => n.testBit (idxN (sndX u z, sndY v z))) h
        simp only [Nat.testBit_and, own_bit] at this
        simpa using this
      exact ⟨hsub _ k1 h1, hsub _ k2 h2, h1, h2⟩
    · rintro ⟨_, _, h1, h2⟩
      refine sub_of_bits fun i hi => ?_
      rw [own_bit] at hi
      simp only [Bool.or_eq_true, decide_eq_true_eq] at hi
      rcases hi with rfl | rfl
      · exact h1
      · exact h2
  · simp
end Go.Proofs.Ytdcjhfmkkcakhaa

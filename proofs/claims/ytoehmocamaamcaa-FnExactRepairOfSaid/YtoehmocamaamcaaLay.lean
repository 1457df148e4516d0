/-
  Contracts of the functions on laying (DominoAt, l32Reached, canLay, CanLay): what each returns, as a function of its arguments; nothing that was there is written; at most 1048576 dominoes.
-/
import Derived.Test.YtoehmocamaamcaaPart
import Derived.Test.YtoehmocamaamcaaReach
import Derived.Test.YtoehmocamaamcaaChanged
namespace Go.Proofs.Ytoehmocamaamcaa
open Go.ChangeShapes Go.WideShapes Go.ChangeAt Go.RowKit Go.Deep
set_option linter.unusedVariables false

theorem insD_mem {out : List Dm} {d e : Dm} : e ∈ insD out d ↔ e = d ∨ e ∈ out := by
  unfold insD
  have hp := posD_le out d out.length
  split
  · rename_i h
    constructor
    · exact .inr
    · rintro (rfl | h2)
      · have hi : posD out e out.length - 1 < out.length := by omega
        have : out[posD out e out.length - 1]? = some (dAt out (posD out e out.length - 1)) := by
          unfold dAt; rw [List.getElem?_eq_getElem hi]; rfl
        rw [h.2] at this
        exact List.mem_of_getElem? this
      · exact h2
  · rw [List.mem_append, List.mem_cons]
    constructor
    · rintro (h | h | h)
      · exact .inr (List.mem_of_mem_take h)
      · exact .inl h
      · exact .inr (List.mem_of_mem_drop h)
    · rintro (h | h)
      · exact .inr (.inl h)
      · rw [← List.take_append_drop (posD out d out.length) out, List.mem_append] at h
        rcases h with h | h
        · exact .inl h
        · exact .inr (.inr h)
theorem foldD_mem {e : Dm} (l : List Dm) : ∀ out : List Dm, e ∈ l.foldl addD out ↔ (e ∈ l ∧ okD e = true) ∨ e ∈ out := by
  induction l with
  | nil => intro out; simp
  | cons d l ih =>
    intro out
    rw [List.foldl_cons, ih, List.mem_cons]
    unfold addD
    split
    · rename_i hd
      rw [insD_mem]
      constructor
      · rintro (h | rfl | h)
        · exact .inl ⟨.inr h.1, h.2⟩
        · exact .inl ⟨.inl rfl, hd⟩
        · exact .inr h
      · rintro (⟨rfl | h, h2⟩ | h)
        · exact .inr (.inl rfl)
        · exact .inl ⟨h, h2⟩
        · exact .inr (.inr h)
    · rename_i hd
      constructor
      · rintro (h | h)
        · exact .inl ⟨.inr h.1, h.2⟩
        · exact .inr h
      · rintro (⟨rfl | h, h2⟩ | h)
        · exact absurd h2 hd
        · exact .inl ⟨h, h2⟩
        · exact .inr h
theorem sortD_mem {e : Dm} {l : List Dm} : e ∈ sortD l ↔ e ∈ l ∧ okD e = true := by unfold sortD; rw [foldD_mem]; simp
theorem covFold_bit (i : Nat) : ∀ (l : List Dm) (s : Nat), (l.foldl covStep s).testBit i = (s.testBit i || decide (∃ d ∈ l, okD d = true ∧ (ownD d).testBit i = true)) := by
  intro l
  induction l with
  | nil => intro s; simp
  | cons d l ih =>
    intro s
    rw [List.foldl_cons, ih]
    unfold covStep
    split
    · rename_i hd
      rw [Nat.testBit_or, Bool.or_assoc]
      congr 1
      rw [Bool.eq_iff_iff]
      simp only [Bool.or_eq_true, decide_eq_true_eq, List.mem_cons]
      constructor
      · rintro (h | ⟨e, he, h⟩)
        · exact ⟨d, .inl rfl, hd, h⟩
        · exact ⟨e, .inr he, h⟩
      · rintro ⟨e, rfl | he, h⟩
        · exact .inl h.2
        · exact .inr ⟨e, he, h⟩
    · rename_i hd
      congr 1
      apply decide_eq_decide.2
      simp only [List.mem_cons]
      constructor
      · rintro ⟨e, he, h⟩; exact ⟨e, .inr he, h⟩
      · rintro ⟨e, rfl | he, h⟩
        · exact absurd h.1 hd
        · exact ⟨e, he, h⟩
theorem covers_bit (l : List Dm) (i : Nat) : (covers l).testBit i = decide (∃ d ∈ l, okD d = true ∧ (ownD d).testBit i = true) := by
  unfold covers; rw [covFold_bit]; simp
theorem covers_sort (l : List Dm) : covers (sortD l) = covers l := by
  apply Nat.eq_of_testBit_eq; intro i
  rw [covers_bit, covers_bit]
  apply decide_eq_decide.2
  constructor
  · rintro ⟨d, hd, h⟩; exact ⟨d, (sortD_mem.1 hd).1, h⟩
  · rintro ⟨d, hd, h⟩; exact ⟨d, sortD_mem.2 ⟨hd, h.1⟩, h⟩
def overD (d : Dm) (c : Cl) : Bool := okD d && (decide ((d.1, d.2.1) = c) || decide ((sndX d.1 d.2.2, sndY d.2.1 d.2.2) = c))
def domAt : List Dm → Cl → Int → Int
  | [], _, _ => -1
  | d :: l, c, k => if overD d c then k else domAt l c (k + 1)
theorem over_bit {d : Dm} {c : Cl} (hc : cellOk c.1 c.2 = true) : overD d c = (okD d && (ownD d).testBit (idxN c)) := by
  unfold overD
  cases hd : okD d
  · rfl
  · rw [Bool.true_and, Bool.true_and]
    obtain ⟨k1, k2⟩ := domOk_cells hd
    have e : (ownD d).testBit (idxN c) = (decide (idxN (d.1, d.2.1) = idxN c) || decide (idxN (sndX d.1 d.2.2, sndY d.2.1 d.2.2) = idxN c)) := by
      unfold ownD setD
      rw [Nat.testBit_or, nthBit_test, nthBit_test]; rfl
    rw [e, Bool.eq_iff_iff]
    simp only [Bool.or_eq_true, decide_eq_true_eq]
    constructor
    · rintro (h | h)
      · exact .inl (by rw [h])
      · exact .inr (by rw [h])
    · rintro (h | h)
      · exact .inl (idxN_inj k1 hc h)
      · exact .inr (idxN_inj k2 hc h)
theorem domAt_neg {c : Cl} (hc : cellOk c.1 c.2 = true) : ∀ (l : List Dm) (k : Int), 0 ≤ k → (domAt l c k < 0 ↔ (covers l).testBit (idxN c) = false) := by
  have key : ∀ (l : List Dm) (k : Int), 0 ≤ k → (domAt l c k < 0 ↔ ∀ d ∈ l, overD d c = false) := by
    intro l
    induction l with
    | nil => intro k _; simp [domAt]
    | cons d l ih =>
      intro k hk
      rw [domAt]
      cases ho : overD d c
      · rw [if_neg (by decide), ih (k + 1) (by omega)]
        simp [ho]
      · rw [if_pos rfl]
        simp [ho]; omega
  intro l k hk
  rw [key l k hk, covers_bit, decide_eq_false_iff_not]
  constructor
  · rintro h ⟨d, hd, h1, h2⟩
    have := h d hd
    rw [over_bit hc, h1, h2] at this; cases this
  · intro h d hd
    rw [over_bit hc]
    cases h1 : okD d
    · rfl
    · cases h2 : (ownD d).testBit (idxN c)
      · rfl
      · exact absurd ⟨d, hd, h1, h2⟩ h
set_option maxRecDepth 100000 in
set_option maxHeartbeats 1000000 in
theorem DominoAt_any (A : Option Addr) (N c : Nat) (l : List Dm) (cx cy : Int) (w : World) (hN : N = l.length) (hl : N ≤ 1048576) (hr : RdD w A l) :
    Calls Try.prog 108 #[.slice A N c, .agg #[.int .i64 cx, .int .i64 cy]] w fun e w' => e = .returned (.int .i64 (domAt l (cx, cy) 0)) ∧ Below w.heap.size w w' := by
  have HN := Lib.hid hN
  have hr' := Lib.hid hr
  have P0 := Blk.new w 62 [.int .i64 cx, .int .i64 cy]
  have he := eq_cell
  clear hN hr
  go_enter Try.func108, Try.ntmps108
  go_wp2_with fail
  go_loopw [5] (fun q wr => ∃ k : Nat, k ≤ N ∧ q = .int .i64 k ∧ Hid (domAt l (cx, cy) 0 = domAt (l.drop k) (cx, cy) k) ∧ Hid (Blk wr w.heap.size 62 [.int .i64 cx, .int .i64 cy]) ∧ Below w.heap.size w wr) (fun q _ => N - (intOf q).toNat)
  case atStart => exact ⟨0, by omega, rfl, Lib.hid rfl, Lib.hid P0, by go_grown⟩
  case round =>
    obtain ⟨k, hk, rfl, H, HP, hB⟩ := hrel
    clear P0
    have P := HP.out
    by_cases hlt : k < N
    · obtain ⟨b, off, x, y, z, rfl, hbl, hv, hd, _, _, c0, c1, c2⟩ := (hr'.out.below hB).at_ (k := k) (by have := HN.out; omega)
      have hs : domAt l (cx, cy) 0 = if overD (x, y, z) (cx, cy) then (k : Int) else domAt (l.drop (k + 1)) (cx, cy) (k + 1) := by rw [H.out, hd, domAt]
      have Hs := Lib.hid hs
      clear hv hd hs
      cases c3 : domOk x y z
      · have OK := Lib.hid c3
        have H2 := Lib.hid (show domAt l (cx, cy) 0 = domAt (l.drop (k + 1)) (cx, cy) (k + 1) by
          rw [Hs.out, if_neg (by unfold overD okD; dsimp only; rw [c3]; simp)])
        clear c3
        go_wp2_with (go_at_call 107; refine (DominoOk_s x y z _).mono ?_; rintro e wn ⟨rfl, hbn⟩; have hSz := bl_sz (bl_trans hB (by go_grown)) hbn; replace hB := bl_trans (bl_trans hB (by go_grown)) hbn; replace P := P.bel (bl_trans (by go_grown) hbn); replace Pc := P.c2; rw [OK.out]; clear hbn)
        go_roundw
        case rel => exact ⟨k + 1, by omega, by go_num, H2, Lib.hid P, hB⟩
        case measure => simp [intOf]; omega
      · have OK := Lib.hid c3
        have hov : overD (x, y, z) (cx, cy) = ((x == cx && y == cy) || (sndX x z == cx && sndY y z == cy)) := by
          unfold overD okD; dsimp only; rw [c3, Bool.true_and]
          rw [Bool.eq_iff_iff]; simp
        have Hov := Lib.hid hov
        clear hov
        have k0 := Lib.hid c0
        have k1 := Lib.hid c1
        have k2 := Lib.hid c2
        cases t1 : (x == cx && y == cy)
        · cases t2 : (sndX x z == cx && sndY y z == cy)
          · have H2 := Lib.hid (show domAt l (cx, cy) 0 = domAt (l.drop (k + 1)) (cx, cy) (k + 1) by
              rw [Hs.out, Hov.out, t1, t2]; rfl)
            clear c3
            go_wp2_with (go_at_call 107; refine (DominoOk_s x y z _).mono ?_; rintro e wn ⟨rfl, hbn⟩; have hSz := bl_sz (bl_trans hB (by go_grown)) hbn; replace hB := bl_trans (bl_trans hB (by go_grown)) hbn; replace P := P.bel (bl_trans (by go_grown) hbn); replace Pc := P.c2; rw [OK.out]; replace c0 := (hbn.cell (p := ⟨b, off + k * 3, none⟩) hbl).trans c0; replace c1 := (hbn.cell (p := ⟨b, off + k * 3 + 1, none⟩) hbl).trans c1; replace c2 := (hbn.cell (p := ⟨b, off + k * 3 + 2, none⟩) hbl).trans c2; clear hbn)
            (refine (CellsUnder_yes x y z _ OK.out).mono ?_; rintro e wn ⟨rfl, hbn⟩; have hSz := bl_sz (bl_trans hB (by go_grown)) hbn; replace hB := bl_trans (bl_trans hB (by go_grown)) hbn; replace P := P.bel (bl_trans (by go_grown) hbn); replace Pc := P.c2; have hwn := hB.size; (have E := (Blk.new wn 62 [.int .i64 x, .int .i64 y]).alloc (.cells #[.int .i64 (sndX x z), .int .i64 (sndY y z)] 62); have Ec := E.c2; have F := Blk.new2 wn (.cells #[.int .i64 x, .int .i64 y] 62) 62 [.int .i64 (sndX x z), .int .i64 (sndY y z)]; have Fc := F.c2); replace P := (P.alloc (.cells #[.int .i64 x, .int .i64 y] 62)).alloc (.cells #[.int .i64 (sndX x z), .int .i64 (sndY y z)] 62); replace Pc := P.c2; clear hbn)
            go_wp2_with fail
            go_roundw
            case rel => exact ⟨k + 1, by omega, by go_num, H2, Lib.hid P, bl_trans hB (by go_grown)⟩
            case measure => simp [intOf]; omega
          · have H2 := Lib.hid (show domAt l (cx, cy) 0 = (k : Int) by
              rw [Hs.out, Hov.out, t1, t2]; rfl)
            clear c3
            go_wp2_with (go_at_call 107; refine (DominoOk_s x y z _).mono ?_; rintro e wn ⟨rfl, hbn⟩; have hSz := bl_sz (bl_trans hB (by go_grown)) hbn; replace hB := bl_trans (bl_trans hB (by go_grown)) hbn; replace P := P.bel (bl_trans (by go_grown) hbn); replace Pc := P.c2; rw [OK.out]; replace c0 := (hbn.cell (p := ⟨b, off + k * 3, none⟩) hbl).trans c0; replace c1 := (hbn.cell (p := ⟨b, off + k * 3 + 1, none⟩) hbl).trans c1; replace c2 := (hbn.cell (p := ⟨b, off + k * 3 + 2, none⟩) hbl).trans c2; clear hbn)
            (refine (CellsUnder_yes x y z _ OK.out).mono ?_; rintro e wn ⟨rfl, hbn⟩; have hSz := bl_sz (bl_trans hB (by go_grown)) hbn; replace hB := bl_trans (bl_trans hB (by go_grown)) hbn; replace P := P.bel (bl_trans (by go_grown) hbn); replace Pc := P.c2; have hwn := hB.size; (have E := (Blk.new wn 62 [.int .i64 x, .int .i64 y]).alloc (.cells #[.int .i64 (sndX x z), .int .i64 (sndY y z)] 62); have Ec := E.c2; have F := Blk.new2 wn (.cells #[.int .i64 x, .int .i64 y] 62) 62 [.int .i64 (sndX x z), .int .i64 (sndY y z)]; have Fc := F.c2); replace P := (P.alloc (.cells #[.int .i64 x, .int .i64 y] 62)).alloc (.cells #[.int .i64 (sndX x z), .int .i64 (sndY y z)] 62); replace Pc := P.c2; clear hbn)
            go_wp2_with fail
            go_ret
            exact ⟨ret_int (by rw [H2.out]), bl_trans hB (by go_grown)⟩
        · have H2 := Lib.hid (show domAt l (cx, cy) 0 = (k : Int) by
            rw [Hs.out, Hov.out, t1]; rfl)
          clear c3
          go_wp2_with (go_at_call 107; refine (DominoOk_s x y z _).mono ?_; rintro e wn ⟨rfl, hbn⟩; have hSz := bl_sz (bl_trans hB (by go_grown)) hbn; replace hB := bl_trans (bl_trans hB (by go_grown)) hbn; replace P := P.bel (bl_trans (by go_grown) hbn); replace Pc := P.c2; rw [OK.out]; replace c0 := (hbn.cell (p := ⟨b, off + k * 3, none⟩) hbl).trans c0; replace c1 := (hbn.cell (p := ⟨b, off + k * 3 + 1, none⟩) hbl).trans c1; replace c2 := (hbn.cell (p := ⟨b, off + k * 3 + 2, none⟩) hbl).trans c2; clear hbn)
          (refine (CellsUnder_yes x y z _ OK.out).mono ?_; rintro e wn ⟨rfl, hbn⟩; have hSz := bl_sz (bl_trans hB (by go_grown)) hbn; replace hB := bl_trans (bl_trans hB (by go_grown)) hbn; replace P := P.bel (bl_trans (by go_grown) hbn); replace Pc := P.c2; have hwn := hB.size; (have E := (Blk.new wn 62 [.int .i64 x, .int .i64 y]).alloc (.cells #[.int .i64 (sndX x z), .int .i64 (sndY y z)] 62); have Ec := E.c2; have F := Blk.new2 wn (.cells #[.int .i64 x, .int .i64 y] 62) 62 [.int .i64 (sndX x z), .int .i64 (sndY y z)]; have Fc := F.c2); replace P := (P.alloc (.cells #[.int .i64 x, .int .i64 y] 62)).alloc (.cells #[.int .i64 (sndX x z), .int .i64 (sndY y z)] 62); replace Pc := P.c2; clear hbn)
          go_wp2_with fail
          go_ret
          exact ⟨ret_int (by rw [H2.out]), bl_trans hB (by go_grown)⟩
    · have H2 := Lib.hid (show domAt l (cx, cy) 0 = -1 by rw [H.out, List.drop_eq_nil_of_le (by have := HN.out; omega)]; rfl)
      go_wp2_with fail
      go_ret
      exact ⟨ret_int (by rw [H2.out]), hB⟩
def reachedS (rs : List Int) (laid : List Dm) (c : Cl) : Nat := if (covers laid).testBit (idxN c) then 0 else setL (reachL (bdiff (regSet rs) (covers laid)) c)
theorem InC.set_ {lo hi : Nat} {w : World} {v : Value} {l : List Cl} (h : InC lo hi w v l) {p : Addr} (hp : p.block < lo) (u : Value) : InC lo hi (w.setCell p u) v l := ⟨h.1.set' hp u, h.2⟩
def canLayB (free : Nat) (c : Cl) (d : Dm) : Bool := okD d && free.testBit (idxN c) && (setL (reachL free c) &&& ownD d == ownD d)
def canLayR (rs : List Int) (c : Cl) (laid : List Dm) (d : Dm) : Bool := (regOk rs && cellOk c.1 c.2 && regHas rs c.1 c.2) && isPartial rs (sortD laid) && canLayB (bdiff (regSet rs) (covers laid)) c d
theorem takeH_ {P : Program} {md : Region.Mode} {ops : Array Oper} {Q : Exit → Act → World → Prop} {S : World → Prop} {i : Nat} {oi : Oper} {d : Option Tmp} {v : Value} {fuel : Nat} {listed : Array Bool} {a : Act} {w : World} (hi : ops[i]? = some oi) (hd : oi.dst = d)
    (hs : Region.noSelect ops = true) (hf : Region.free md ops listed i = true) (hr : (Region.ready md ops listed).contains i = true)
    (hQ : ∀ c a w, Q (.panic c) (a.put d v) w → Q (.panic c) a w) (hy : YieldsIf P ops S oi v a) (hS : S w)
    (h : wpAnyH P md ops Q S fuel (listed.setIfInBounds i true) (a.put d v) w) : wpAnyH P md ops Q S (fuel + 1) listed a w := by
  subst hd; exact wpAnyH_take hi hs hf hr hQ hy hS h
theorem bfs_mem' {s : Nat} {d : Cl} (f : Nat) : ∀ {k : Nat} {L : List Cl}, d ∈ bfs s f k L → d ∈ L ∨ (cellOk d.1 d.2 = true ∧ s.testBit (idxN d) = true) := by
  have hfold : ∀ (l L : List Cl), d ∈ l.foldl addC L → d ∈ L ∨ d ∈ l := by
    intro l
    induction l with
    | nil => intro L h; exact .inl h
    | cons e l ih =>
      intro L h
      rcases ih _ h with h | h
      · unfold addC at h
        split at h
        · exact .inl h
        · rcases List.mem_append.1 h with h | h
          · exact .inl h
          · simp at h; exact .inr (by simp [h])
      · exact .inr (List.mem_cons_of_mem _ h)
  induction f with
  | zero => intro k L h; exact .inl h
  | succ f ih =>
    intro k L h
    rw [bfs] at h
    split at h
    · exact .inl h
    · rcases ih h with h | h
      · unfold grow at h
        rcases hfold _ _ h with h | h
        · exact .inl h
        · have := mem_cellsBy.1 h
          refine .inr ⟨this.1, ?_⟩
          have h2 := this.2
          simp only [Bool.and_eq_true] at h2
          first | exact h2.1 | exact h2.2
      · exact .inr h
theorem canLayB_bits {rs : List Int} {laid : List Dm} {x y u v : Int} {z : Bool} (hreg : regOk rs = true) (hc : cellOk x y = true) (hdoor : (regSet rs).testBit (idxN (x, y)) = true) (hd : okD (u, v, z) = true) :
    canLayB (bdiff (regSet rs) (covers laid)) (x, y) (u, v, z) = ((regSet rs).testBit (idxN (u, v)) && ((regSet rs).testBit (idxN (sndX u z, sndY v z)) && ((reachedS rs (sortD laid) (x, y)).testBit (idxN (u, v)) && (reachedS rs (sortD laid) (x, y)).testBit (idxN (sndX u z, sndY v z))))) := by
  have hSlt := regSet_lt hreg
  have hClt := covers_lt laid
  obtain ⟨k1, k2⟩ := domOk_cells hd
  unfold canLayB reachedS
  rw [covers_sort, hd, bdiff_bit hSlt hClt, hdoor]
  cases hcv : (covers laid).testBit (idxN (x, y))
  · simp only [Bool.true_and, Bool.not_false, Bool.false_eq_true, if_false]
    obtain ⟨R, hR⟩ : ∃ R, R = reachL (bdiff (regSet rs) (covers laid)) (x, y) := ⟨_, rfl⟩
    have hsub : ∀ c : Cl, cellOk c.1 c.2 = true → (setL R).testBit (idxN c) = true → (regSet rs).testBit (idxN c) = true := by
      intro c hcc h
      have hw : WfL (bdiff (regSet rs) (covers laid)) R := hR ▸ reachL_wf _ hc
      have h2 := setL_has (d := c) hw.ok hcc
      unfold hasBit at h2
      rw [hcc, Bool.true_and] at h2
      have h3 : decide (c ∈ R) = true := by rw [← h2]; exact h
      have h4 := of_decide_eq_true h3
      rw [hR] at h4
      rcases bfs_mem' 65 h4 with h5 | ⟨_, h5⟩
      · simp at h5; rw [h5]; exact hdoor
      · rw [bdiff_bit hSlt hClt, Bool.and_eq_true] at h5; exact h5.1
    rw [← hR]
    have own_bit : ∀ i, (ownD (u, v, z)).testBit i = (decide (idxN (u, v) = i) || decide (idxN (sndX u z, sndY v z) = i)) := by
      intro i
      unfold ownD setD
      rw [Nat.testBit_or, nthBit_test, nthBit_test]; rfl
    rw [Bool.eq_iff_iff, beq_iff_eq]
    simp only [Bool.and_eq_true]
    constructor
    · intro h
      have h1 : (setL R).testBit (idxN (u, v)) = true := by
        have := congrArg (fun n => n.testBit (idxN (u, v))) h
        simp only [Nat.testBit_and, own_bit] at this
        simpa using this
      have h2 : (setL R).testBit (idxN (sndX u z, sndY v z)) = true := by
        have := congrArg (fun n => n.testBit (idxN (sndX u z, sndY v z))) h
        simp only [Nat.testBit_and, own_bit] at this
        simpa using this
      exact ⟨hsub _ k1 h1, hsub _ k2 h2, h1, h2⟩
    · rintro ⟨_, _, h1, h2⟩
      refine sub_of_bits fun i hi => ?_
      rw [own_bit] at hi
      simp only [Bool.or_eq_true, decide_eq_true_eq] at hi
      rcases hi with rfl | rfl
      · exact h1
      · exact h2
  · simp
end Go.Proofs.Ytoehmocamaamcaa

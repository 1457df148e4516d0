/-
  Contracts of the functions on laying (DominoAt, l32Reached, canLay, CanLay): what each returns, as a function of its arguments; nothing that was there is written; at most 1048576 dominoes.
-/
import Derived.Test.YtmhgifdnnlijcaaPart
import Derived.Test.YtmhgifdnnlijcaaReach
import Derived.Test.YtmhgifdnnlijcaaChanged
namespace Go.Proofs.Ytmhgifdnnlijcaa
open Go.ChangeShapes Go.WideShapes Go.ChangeAt Go.RowKit Go.Deep
set_option linter.unusedVariables false

theorem insD_mem {out : List Dm} {d e : Dm} : e ∈ insD out d ↔ e = d ∨ e ∈ out := by
  unfold insD
  have hp := posD_le out d out.length
  split
  · rename_i h
    constructor
    · exact .inr
    · rintro (rfl | h2)
      · have hi : posD out e out.length - 1 < out.length := by omega
        have : out[posD out e out.length - 1]? = some (dAt out (posD out e out.length - 1)) := by
          unfold dAt; rw [List.getElem?_eq_getElem hi]; rfl
        rw [h.2] at this
        exact List.mem_of_getElem? this
      · exact h2
  · rw [List.mem_append, List.mem_cons]
    constructor
    · rintro (h | h | h)
      · exact .inr (List.mem_of_mem_take h)
      · exact .inl h
      · exact .inr (List.mem_of_mem_drop h)
    · rintro (h | h)
      · exact .inr (.inl h)
      · rw [← List.take_append_drop (posD out d out.length) out, List.mem_append] at h
        rcases h with h | h
        · exact .inl h
        · exact .inr (.inr h)
theorem foldD_mem {e : Dm} (l : List Dm) : ∀ out : List Dm, e ∈ l.foldl addD out ↔ (e ∈ l ∧ okD e = true) ∨ e ∈ out := by
  induction l with
  | nil => intro out; simp
  | cons d l ih =>
    intro out
    rw [List.foldl_cons, ih, List.mem_cons]
    unfold addD
    split
    · rename_i hd
      rw [insD_mem]
      constructor
      · rintro (h | rfl | h)
        · exact .inl ⟨.inr h.1, h.2⟩
        · exact .inl ⟨.inl rfl, hd⟩
        · exact .inr h
      · rintro (⟨rfl | h, h2⟩ | h)
        · exact .inr (.inl rfl)
        · exact .inl ⟨h, h2⟩
        · exact .inr (.inr h)
    · rename_i hd
      constructor
      · rintro (h | h)
        · exact .inl ⟨.inr h.1, h.2⟩
        · exact .inr h
      · rintro (⟨rfl | h, h2⟩ | h)
        · exact absurd h2 hd
        · exact .inl ⟨h, h2⟩
        · exact .inr h
theorem sortD_mem {e : Dm} {l : List Dm} : e ∈ sortD l ↔ e ∈ l ∧ okD e = true := by unfold sortD; rw [foldD_mem]; simp
theorem covFold_bit (i : Nat) : ∀ (l : List Dm) (s : Nat), (l.foldl covStep s).testBit i = (s.testBit i || decide (∃ d ∈ l, okD d = true ∧ (ownD d).testBit i = true)) := by
  intro l
  induction l with
  | nil => intro s; simp
  | cons d l ih =>
    intro s
    rw [List.foldl_cons, ih]
    unfold covStep
    split
    · rename_i hd
      rw [Nat.testBit_or, Bool.or_assoc]
      congr 1
      rw [Bool.eq_iff_iff]
      simp only [Bool.or_eq_true, decide_eq_true_eq, List.mem_cons]
      constructor
      · rintro (h | ⟨e, he, h⟩)
        · exact ⟨d, .inl rfl, hd, h⟩
        · exact ⟨e, .inr he, h⟩
      · rintro ⟨e, rfl | he, h⟩
        · exact .inl h.2
        · exact .inr ⟨e, he, h⟩
    · rename_i hd
      congr 1
      apply decide_eq_decide.2
      simp only [List.mem_cons]
      constructor
      · rintro ⟨e, he, h⟩; exact ⟨e, .inr he, h⟩
      · rintro ⟨e, rfl | he, h⟩
        · exact absurd h.1 hd
        · exact ⟨e, he, h⟩
theorem covers_bit (l : List Dm) (i : Nat) : (covers l).testBit i = decide (∃ d ∈ l, okD d = true ∧ (ownD d).testBit i = true) := by
  unfold covers; rw [covFold_bit]; simp
theorem covers_sort (l : List Dm) : covers (sortD l) = covers l := by
  apply Nat.eq_of_testBit_eq; intro i
  rw [covers_bit, covers_bit]
  apply decide_eq_decide.2
  constructor
  · rintro ⟨d, hd, h⟩; exact ⟨d, (sortD_mem.1 hd).1, h⟩
  · rintro ⟨d, hd, h⟩; exact ⟨d, sortD_mem.2 ⟨hd, h.1⟩, h⟩
def overD (d : Dm) (c : Cl) : Bool := okD d && (decide ((d.1, d.2.1) = c) || decide ((sndX d.1 d.2.2, sndY d.2.1 d.2.2) = c))
def domAt : List Dm → Cl → Int → Int
  | [], _, _ => -1
  | d :: l, c, k => if overD d c then k else domAt l c (k + 1)
theorem over_bit {d : Dm} {c : Cl} (hc : cellOk c.1 c.2 = true) : overD d c = (okD d && (ownD d).testBit (idxN c)) := by
  unfold overD
  cases hd : okD d
  · rfl
  · rw [Bool.true_and, Bool.true_and]
    obtain ⟨k1, k2⟩ := domOk_cells hd
    have e : (ownD d).testBit (idxN c) = (decide (idxN (d.1, d.2.1) = idxN c) || decide (idxN (sndX d.1 d.2.2, sndY d.2.1 d.2.2) = idxN c)) := by
      unfold ownD setD
      rw [Nat.testBit_or, nthBit_test, nthBit_test]; rfl
    rw [e, Bool.eq_iff_iff]
    simp only [Bool.or_eq_true, decide_eq_true_eq]
    constructor
    · rintro (h | h)
      · exact .inl (by rw [h])
      · exact .inr (by rw [h])
    · rintro (h | h)
      · exact .inl (idxN_inj k1 hc h)
      · exact .inr (idxN_inj k2 hc h)
theorem domAt_neg {c : Cl} (hc : cellOk c.1 c.2 = true) : ∀ (l : List Dm) (k : Int), 0 ≤ k → (domAt l c k < 0 ↔ (covers l).testBit (idxN c) = false) := by
  have key : ∀ (l : List Dm) (k : Int), 0 ≤ k → (domAt l c k < 0 ↔ ∀ d ∈ l, overD d c = false) := by
    intro l
    induction l with
    | nil => intro k _; simp [domAt]
    | cons d l ih =>
      intro k hk
      rw [domAt]
      cases ho : overD d c
      · rw [if_neg (by decide), ih (k + 1) (by omega)]
        simp [ho]
      · rw [if_pos rfl]
        simp [ho]; omega
  intro l k hk
  rw [key l k hk, covers_bit, decide_eq_false_iff_not]
  constructor
  · rintro h ⟨d, hd, h1, h2⟩
    have := h d hd
    rw [over_bit hc, h1, h2] at this; cases this
  · intro h d hd
    rw [over_bit hc]
    cases h1 : okD d
    · rfl
    · cases h2 : (ownD d).testBit (idxN c)
      · rfl
      · exact absurd ⟨d, hd, h1, h2⟩ h
set_option maxRecDepth 100000 in
set_option maxHeartbeats 1000000 in
theorem DominoAt_any (A : Option Addr) (N c : Nat) (l : List Dm) (cx cy : Int) (w : World) (hN : N = l.length) (hl : N ≤ 1048576) (hr : RdD w A l) :
    Calls Try.prog 116 #[.slice A N c, .agg #[.int .i64 cx, .int .i64 cy]] w fun e w' => e = .returned (.int .i64 (domAt l (cx, cy) 0)) ∧ Below w.heap.size w w' := by
  have HN := Lib.hid hN
  have hr' := Lib.hid hr
  have P0 := Blk.new w 70 [.int .i64 cx, .int .i64 cy]
  have he := eq_cell
  clear hN hr
  go_enter Try.func116, Try.ntmps116
  go_wp2_with fail
  go_loopw [5] (fun q wr => ∃ k : Nat, k ≤ N ∧ q = .int .i64 k ∧ Hid (domAt l (cx, cy) 0 = domAt (l.drop k) (cx, cy) k) ∧ Hid (Blk wr w.heap.size 70 [.int .i64 cx, .int .i64 cy]) ∧ Below w.heap.size w wr) (fun q _ => N - (intOf q).toNat)
  case atStart => exact ⟨0, by omega, rfl, Lib.hid rfl, Lib.hid P0, by go_grown⟩
  case round =>
    obtain ⟨k, hk, rfl, H, HP, hB⟩ := hrel
    clear P0
    have P := HP.out
    by_cases hlt : k < N
    · obtain ⟨b, off, x, y, z, rfl, hbl, hv, hd, _, _, c0, c1, c2⟩ := (hr'.out.below hB).at_ (k := k) (by have := HN.out; omega)
      have hs : domAt l (cx, cy) 0 = if overD (x, y, z) (cx, cy) then (k : Int) else domAt (l.drop (k + 1)) (cx, cy) (k + 1) := by rw [H.out, hd, domAt]
      have Hs := Lib.hid hs
      clear hv hd hs
      cases c3 : domOk x y z
      · have OK := Lib.hid c3
        have H2 := Lib.hid (show domAt l (cx, cy) 0 = domAt (l.drop (k + 1)) (cx, cy) (k + 1) by
          rw [Hs.out, if_neg (by unfold overD okD; dsimp only; rw [c3]; simp)])
        clear c3
        go_wp2_with (go_at_call 108; refine (DominoOk_s x y z _).mono ?_; rintro e wn ⟨rfl, hbn⟩; have hSz := bl_sz (bl_trans hB (by go_grown)) hbn; replace hB := bl_trans (bl_trans hB (by go_grown)) hbn; replace P := P.bel (bl_trans (by go_grown) hbn); replace Pc := P.c2; rw [OK.out]; clear hbn)
        go_roundw
        case rel => exact ⟨k + 1, by omega, by go_num, H2, Lib.hid P, hB⟩
        case measure => simp [intOf]; omega
      · have OK := Lib.hid c3
        have hov : overD (x, y, z) (cx, cy) = ((x == cx && y == cy) || (sndX x z == cx && sndY y z == cy)) := by
          unfold overD okD; dsimp only; rw [c3, Bool.true_and]
          rw [Bool.eq_iff_iff]; simp
        have Hov := Lib.hid hov
        clear hov
        have k0 := Lib.hid c0
        have k1 := Lib.hid c1
        have k2 := Lib.hid c2
        cases t1 : (x == cx && y == cy)
        · cases t2 : (sndX x z == cx && sndY y z == cy)
          · have H2 := Lib.hid (show domAt l (cx, cy) 0 = domAt (l.drop (k + 1)) (cx, cy) (k + 1) by
              rw [Hs.out, Hov.out, t1, t2]; rfl)
            clear c3
            go_wp2_with (go_at_call 108; refine (DominoOk_s x y z _).mono ?_; rintro e wn ⟨rfl, hbn⟩; have hSz := bl_sz (bl_trans hB (by go_grown)) hbn; replace hB := bl_trans (bl_trans hB (by go_grown)) hbn; replace P := P.bel (bl_trans (by go_grown) hbn); replace Pc := P.c2; rw [OK.out]; replace c0 := (hbn.cell (p := ⟨b, off + k * 3, none⟩) hbl).trans c0; replace c1 := (hbn.cell (p := ⟨b, off + k * 3 + 1, none⟩) hbl).trans c1; replace c2 := (hbn.cell (p := ⟨b, off + k * 3 + 2, none⟩) hbl).trans c2; clear hbn)
            (refine (CellsUnder_yes x y z _ OK.out).mono ?_; rintro e wn ⟨rfl, hbn⟩; have hSz := bl_sz (bl_trans hB (by go_grown)) hbn; replace hB := bl_trans (bl_trans hB (by go_grown)) hbn; replace P := P.bel (bl_trans (by go_grown) hbn); replace Pc := P.c2; have hwn := hB.size; (have E := (Blk.new wn 70 [.int .i64 x, .int .i64 y]).alloc (.cells #[.int .i64 (sndX x z), .int .i64 (sndY y z)] 70); have Ec := E.c2; have F := Blk.new2 wn (.cells #[.int .i64 x, .int .i64 y] 70) 70 [.int .i64 (sndX x z), .int .i64 (sndY y z)]; have Fc := F.c2); replace P := (P.alloc (.cells #[.int .i64 x, .int .i64 y] 70)).alloc (.cells #[.int .i64 (sndX x z), .int .i64 (sndY y z)] 70); replace Pc := P.c2; clear hbn)
            go_wp2_with fail
            go_roundw
            case rel => exact ⟨k + 1, by omega, by go_num, H2, Lib.hid P, bl_trans hB (by go_grown)⟩
            case measure => simp [intOf]; omega
          · have H2 := Lib.hid (show domAt l (cx, cy) 0 = (k : Int) by
              rw [Hs.out, Hov.out, t1, t2]; rfl)
            clear c3
            go_wp2_with (go_at_call 108; refine (DominoOk_s x y z _).mono ?_; rintro e wn ⟨rfl, hbn⟩; have hSz := bl_sz (bl_trans hB (by go_grown)) hbn; replace hB := bl_trans (bl_trans hB (by go_grown)) hbn; replace P := P.bel (bl_trans (by go_grown) hbn); replace Pc := P.c2; rw [OK.out]; replace c0 := (hbn.cell (p := ⟨b, off + k * 3, none⟩) hbl).trans c0; replace c1 := (hbn.cell (p := ⟨b, off + k * 3 + 1, none⟩) hbl).trans c1; replace c2 := (hbn.cell (p := ⟨b, off + k * 3 + 2, none⟩) hbl).trans c2; clear hbn)
            (refine (CellsUnder_yes x y z _ OK.out).mono ?_; rintro e wn ⟨rfl, hbn⟩; have hSz := bl_sz (bl_trans hB (by go_grown)) hbn; replace hB := bl_trans (bl_trans hB (by go_grown)) hbn; replace P := P.bel (bl_trans (by go_grown) hbn); replace Pc := P.c2; have hwn := hB.size; (have E := (Blk.new wn 70 [.int .i64 x, .int .i64 y]).alloc (.cells #[.int .i64 (sndX x z), .int .i64 (sndY y z)] 70); have Ec := E.c2; have F := Blk.new2 wn (.cells #[.int .i64 x, .int .i64 y] 70) 70 [.int .i64 (sndX x z), .int .i64 (sndY y z)]; have Fc := F.c2); replace P := (P.alloc (.cells #[.int .i64 x, .int .i64 y] 70)).alloc (.cells #[.int .i64 (sndX x z), .int .i64 (sndY y z)] 70); replace Pc := P.c2; clear hbn)
            go_wp2_with fail
            go_ret
            exact ⟨ret_int (by rw [H2.out]), bl_trans hB (by go_grown)⟩
        · have H2 := Lib.hid (show domAt l (cx, cy) 0 = (k : Int) by
            rw [Hs.out, Hov.out, t1]; rfl)
          clear c3
          go_wp2_with (go_at_call 108; refine (DominoOk_s x y z _).mono ?_; rintro e wn ⟨rfl, hbn⟩; have hSz := bl_sz (bl_trans hB (by go_grown)) hbn; replace hB := bl_trans (bl_trans hB (by go_grown)) hbn; replace P := P.bel (bl_trans (by go_grown) hbn); replace Pc := P.c2; rw [OK.out]; replace c0 := (hbn.cell (p := ⟨b, off + k * 3, none⟩) hbl).trans c0; replace c1 := (hbn.cell (p := ⟨b, off + k * 3 + 1, none⟩) hbl).trans c1; replace c2 := (hbn.cell (p := ⟨b, off + k * 3 + 2, none⟩) hbl).trans c2; clear hbn)
          (refine (CellsUnder_yes x y z _ OK.out).mono ?_; rintro e wn ⟨rfl, hbn⟩; have hSz := bl_sz (bl_trans hB (by go_grown)) hbn; replace hB := bl_trans (bl_trans hB (by go_grown)) hbn; replace P := P.bel (bl_trans (by go_grown) hbn); replace Pc := P.c2; have hwn := hB.size; (have E := (Blk.new wn 70 [.int .i64 x, .int .i64 y]).alloc (.cells #[.int .i64 (sndX x z), .int .i64 (sndY y z)] 70); have Ec := E.c2; have F := Blk.new2 wn (.cells #[.int .i64 x, .int .i64 y] 70) 70 [.int .i64 (sndX x z), .int .i64 (sndY y z)]; have Fc := F.c2); replace P := (P.alloc (.cells #[.int .i64 x, .int .i64 y] 70)).alloc (.cells #[.int .i64 (sndX x z), .int .i64 (sndY y z)] 70); replace Pc := P.c2; clear hbn)
          go_wp2_with fail
          go_ret
          exact ⟨ret_int (by rw [H2.out]), bl_trans hB (by go_grown)⟩
    · have H2 := Lib.hid (show domAt l (cx, cy) 0 = -1 by rw [H.out, List.drop_eq_nil_of_le (by have := HN.out; omega)]; rfl)
      go_wp2_with fail
      go_ret
      exact ⟨ret_int (by rw [H2.out]), hB⟩
def reachedS (rs : List Int) (laid : List Dm) (c : Cl) : Nat := if (covers laid).testBit (idxN c) then 0 else setL (reachL (bdiff (regSet rs) (covers laid)) c)
theorem InC.set_ {lo hi : Nat} {w : World} {v : Value} {l : List Cl} (h : InC lo hi w v l) {p : Addr} (hp : p.block < lo) (u : Value) : InC lo hi (w.setCell p u) v l := ⟨h.1.set' hp u, h.2⟩
set_option maxRecDepth 100000 in
set_option maxHeartbeats 2000000 in
theorem l32Reached_any (A : Option Addr) (c : Nat) (rs : List Int) (x y : Int) (B : Option Addr) (N d : Nat) (laid : List Dm) (w : World) (hl : rs.length ≤ 1048576) (hN : N = laid.length) (hl2 : N ≤ 1048576) (hr : RdI w A rs) (hs : RdD w B laid) (hreg : regOk rs = true) (hok : cellOk x y = true) :
    Calls Try.prog 109 #[.agg #[.slice A rs.length c], .agg #[.int .i64 x, .int .i64 y], .slice B N d] w fun e w' => ∃ g, e = .returned (.slice (some ⟨g, 0, none⟩) 64 64) ∧ (w.heap.size ≤ g ∧ Blk w' g 4 (mkB (reachedS rs laid (x, y)))) ∧ Below w.heap.size w w' := by
  have hmk : ∀ w : World, (Instr.makeSlice 86 (.int .i64 64) (.int .i64 64)).run Try.prog w = .ok (.slice (some ⟨w.heap.size, 0, none⟩) 64 64) (w.alloc (.cells (madeCells #[.bool false] 64) 4)) := run_make_row' (P := Try.prog) 86 4 (.bool false) 1 Try.underlying86 info_bool rfl .i64 .i64 64 (by omega) (by omega)
  have hr' := Lib.hid hr
  have hs' := Lib.hid hs
  have HN := Lib.hid hN
  have hi0 := cellOk_iff.1 hok
  have h8 := (regOk_iff.1 hreg).1
  have h255 := Lib.hid (regOk_iff.1 hreg).2
  have HREG := Lib.hid hreg
  have em : (mkB 0).toArray = madeCells #[.bool false] 64 := by rw [mkB_zero, made_list]
  have hB := bl_alloc (bl_alloc (bl_alloc (Below.refl w.heap.size w) (.cells #[.slice A rs.length c] 39)) (.cells #[.int .i64 x, .int .i64 y] 70)) (.cells (madeCells #[.bool false] 64) 4)
  have P := ((Blk.new w 39 [.slice A rs.length c]).alloc (.cells #[.int .i64 x, .int .i64 y] 70)).alloc (.cells (madeCells #[.bool false] 64) 4)
  have Q := (Blk.new2 w (.cells #[.slice A rs.length c] 39) 70 [.int .i64 x, .int .i64 y]).alloc (.cells (madeCells #[.bool false] 64) 4)
  have M := Blk.new3 w (.cells #[.slice A rs.length c] 39) (.cells #[.int .i64 x, .int .i64 y] 70) 4 (mkB 0)
  rw [em] at M
  have Pc := P.c1
  have Qc := Q.c2
  have hneg := domAt_neg (c := (x, y)) hok laid 0 (Int.le_refl _)
  have hSlt := regSet_lt hreg
  have hClt := covers_lt laid
  obtain ⟨n0, hn0⟩ : ∃ n0, n0 = idxN (x, y) := ⟨_, rfl⟩
  have hb0 : n0 < 64 := by rw [hn0]; exact idxN_lt hok
  have I0 := Lib.hid (show cellIdx x y = (n0 : Int) by rw [hn0]; exact cellIdx_nat hok)
  rw [← hn0] at hneg
  clear hr hs hN em
  cases t0 : (covers laid).testBit n0
  · have hlt : domAt laid (x, y) 0 < 0 := hneg.2 t0
    have hge : ¬ 0 ≤ domAt laid (x, y) 0 := by omega
    have HRS := Lib.hid (show reachedS rs laid (x, y) = setL (reachL (bdiff (regSet rs) (covers laid)) (x, y)) by unfold reachedS; rw [← hn0, t0]; rfl)
    obtain ⟨fr, hfr⟩ : ∃ fr, fr = bdiff (regSet rs) (covers laid) := ⟨_, rfl⟩
    have hfl : fr < 18446744073709551616 := by rw [hfr]; exact bdiff_lt hSlt
    have HFR := Lib.hid hfr
    rw [← hfr] at HRS
    have HN0 := Lib.hid hn0
    have Hok := Lib.hid hok
    clear hneg t0 hfr hn0
    go_enter Try.func109, Try.ntmps109
    go_upto_region 4 with (go_at_call 116; refine (DominoAt_any B N d laid x y _ HN.out hl2 (hs'.out.below hB)).mono ?_; rintro e wn ⟨rfl, hbn⟩; have hSz := bl_sz (bl_trans hB (by go_grown)) hbn; replace hB := bl_trans (bl_trans hB (by go_grown)) hbn; replace P := P.bel (bl_trans (by go_grown) hbn); replace Pc := P.c1; replace Q := Q.bel (bl_trans (by go_grown) hbn); replace Qc := Q.c2; replace M := M.bel hbn; clear hbn)
    have mk0 := M.getB hb0
    go_wp2_with fail
    (refine (CellIndex_s x y _).mono ?_; rintro e wn ⟨rfl, hbn⟩; have hSz := bl_sz (bl_trans hB (by go_grown)) hbn; replace hB := bl_trans (bl_trans hB (by go_grown)) hbn; replace P := P.bel (bl_trans (by go_grown) hbn); replace Pc := P.c1; replace Q := Q.bel (bl_trans (by go_grown) hbn); replace Qc := Q.c2; rw [I0.out]; replace M := M.bel hbn; have m1 := M.getB hb0; have mf := M.frozen n0; replace M := M.setB n0; replace P := P.farN (w.heap.size + 1 + 1) n0 (by omega) (.bool true); replace Q := Q.farN (w.heap.size + 1 + 1) n0 (by omega) (.bool true); replace Pc := P.c1; replace Qc := Q.c2; replace hB := bl_set hB (p := ⟨w.heap.size + 1 + 1, n0, none⟩) (by show w.heap.size ≤ w.heap.size + 1 + 1; omega) (.bool true); clear hbn)
    obtain ⟨wa, hwa⟩ : ∃ wa : World, wa = wn.setCell ⟨w.heap.size + 1 + 1, n0, none⟩ (.bool true) := ⟨_, rfl⟩
    have hMlt := M.lt
    have ho : OwC (w.heap.size + 1 + 1 + 1) ((wn.setCell ⟨w.heap.size + 1 + 1, n0, none⟩ (.bool true)).alloc (.cells #[.int .i64 x, .int .i64 y] 70)) (.slice (some ⟨(wn.setCell ⟨w.heap.size + 1 + 1, n0, none⟩ (.bool true)).heap.size, 0, none⟩) 1 1) [(x, y)] :=
      ⟨⟨_, _, rfl⟩, (Blk.new (wn.setCell ⟨w.heap.size + 1 + 1, n0, none⟩ (.bool true)) 70 [.int .i64 x, .int .i64 y]).own hMlt rfl (by decide), fun c hc => by simp at hc; subst hc; exact ⟨⟨by dsimp only; omega, by dsimp only; omega⟩, ⟨by dsimp only; omega, by dsimp only; omega⟩⟩⟩
    rw [show (wn.setCell ⟨w.heap.size + 1 + 1, n0, none⟩ (.bool true)).heap.size = wn.heap.size by simp] at ho
    have Ho := Lib.hid ho
    have HM0 := Lib.hid (show Blk ((wn.setCell ⟨w.heap.size + 1 + 1, n0, none⟩ (.bool true)).alloc (.cells #[.int .i64 x, .int .i64 y] 70)) (w.heap.size + 1 + 1) 4 (mkB (setL [(x, y)])) by
      have e : setL [(x, y)] = 0 ||| 2 ^ n0 := by rw [HN0.out]; rfl
      rw [e]; exact M.alloc _)
    have HP0 := Lib.hid (P.alloc (.cells #[.int .i64 x, .int .i64 y] 70))
    have HQ0 := Lib.hid (Q.alloc (.cells #[.int .i64 x, .int .i64 y] 70))
    have hB0 := bl_alloc hB (.cells #[.int .i64 x, .int .i64 y] 70)
    clear ho hwa M P Q hB Pc
    go_wp2_with fail
    go_loopw [8, 9] (fun v q wr => ∃ L, ∃ k : Nat, k ≤ L.length ∧ q = .int .i64 k ∧ OwC (w.heap.size + 1 + 1 + 1) wr v L ∧ Hid (WfL fr L) ∧ Hid (bfs fr (65 - k) k L = reachL fr (x, y)) ∧ Hid (Blk wr (w.heap.size + 1 + 1) 4 (mkB (setL L))) ∧ Hid (Blk wr w.heap.size 39 [.slice A rs.length c]) ∧ Hid (Blk wr (w.heap.size + 1) 70 [.int .i64 x, .int .i64 y]) ∧ Below w.heap.size w wr) (fun _ q _ => 65 - (intOf q).toNat)
    case atStart => exact ⟨[(x, y)], 0, by simp, rfl, Ho.out, Lib.hid (WfL.one Hok.out), Lib.hid rfl, HM0, HP0, HQ0, hB0⟩
    case round =>
      obtain ⟨L, k, hk, rfl, own, HW, HR, HM, HP, HQ, hB⟩ := hrel
      clear Ho HM0 HP0 HQ0 hB0 Qc
      obtain ⟨⟨A5, c5, rfl⟩, _⟩ := id own
      have hLl := HW.out.len
      obtain ⟨m0, hm0⟩ : ∃ m0, m0 = L.length := ⟨_, rfl⟩
      have Hm0 := Lib.hid hm0
      rw [← hm0] at own hk hLl ⊢
      clear hm0
      by_cases hlt2 : k < m0
      · obtain ⟨b0, o0, cx, cy, rfl, hbl0, hv, _, g1, g2, e0, e1⟩ := own.rd.at_ (k := k) (by have := Hm0.out; omega)
        have HLk := Lib.hid hv
        have hcok := HW.out.ok _ (List.mem_of_getElem? hv)
        have hZlo := HQ.out.lt
        have hMlo := HM.out.lt
        obtain ⟨wo, rfl⟩ : ∃ wo : World, wo = wr := ⟨_, rfl⟩
        have HO := Lib.hid own
        have Hvb := Lib.hid own.2.1.lt
        clear own hv
        go_wp2_with fail
        (refine (NeighborsOf_s cx cy _).mono ?_; rintro e wy ⟨v, rfl, o1, hbn⟩; have hSz := bl_sz (bl_trans hB (by go_grown)) hbn; replace hB := bl_trans (bl_trans hB (by go_grown)) hbn; replace HO := Lib.hid (HO.out.bel hbn); replace HM := Lib.hid (HM.out.bel hbn); replace HP := Lib.hid (HP.out.bel hbn); replace HQ := Lib.hid (HQ.out.bel hbn); have hsx := hbn.size; clear hbn)
        obtain ⟨⟨A1, c1, rfl⟩, _⟩ := id o1
        have o2 := Lib.hid (o1.in_ (Nat.le_refl _))
        have hnl := nbrs_len cx cy
        have Hq0 := Lib.hid (show ∀ b, (Value.slice (some ⟨b0, o0, none⟩) m0 c5).ownBlock = some b → b < wo.heap.size ∨ wy.heap.size ≤ b from fun b hb => .inl (Hvb.out b hb).2)
        clear o1
        go_wp2_with fail
        go_loopw [8, 11] (fun v q wr' => ∃ j : Nat, j ≤ (nbrs cx cy).length ∧ q = .int .i64 j ∧ OwC (w.heap.size + 1 + 1 + 1) wr' v (((nbrs cx cy).take j).foldl (addS fr) L) ∧ Hid (∀ b, v.ownBlock = some b → b < wo.heap.size ∨ wy.heap.size ≤ b) ∧ InC wo.heap.size wy.heap.size wr' (.slice A1 (nbrs cx cy).length c1) (nbrs cx cy) ∧ wy.heap.size ≤ wr'.heap.size ∧ Hid (Blk wr' (w.heap.size + 1 + 1) 4 (mkB (setL (((nbrs cx cy).take j).foldl (addS fr) L)))) ∧ Hid (Blk wr' w.heap.size 39 [.slice A rs.length c]) ∧ Hid (Blk wr' (w.heap.size + 1) 70 [.int .i64 x, .int .i64 y]) ∧ Below w.heap.size w wr') (fun _ q _ => (nbrs cx cy).length - (intOf q).toNat)
        case atStart => exact ⟨0, by omega, rfl, HO.out, Hq0, o2.out, Nat.le_refl _, HM, HP, HQ, hB⟩
        case round =>
          obtain ⟨j, hj, rfl, own, Hq, hin, hys, HM4, HP4, HQ4, hB'⟩ := hrel
          clear hB HO Hq0 o2 HM HP HQ
          have hB := hB'
          clear hB'
          obtain ⟨M, hM⟩ : ∃ M, M = ((nbrs cx cy).take j).foldl (addS fr) L := ⟨_, rfl⟩
          rw [← hM] at own HM4
          have hMw : WfL fr M := by rw [hM]; exact HW.out.foldS fun d hd => nbrs_ok (List.mem_of_mem_take hd)
          have hMl := hMw.len
          have hML : L.length ≤ M.length := by rw [hM]; exact foldS_len _ _ _
          obtain ⟨⟨A6, c6, rfl⟩, _⟩ := id own
          obtain ⟨n5, hn5⟩ : ∃ n5, n5 = M.length := ⟨_, rfl⟩
          rw [← hn5] at own hMl Hq ⊢
          have Hn5 := Lib.hid hn5
          have hml : M.length ≤ 1048576 := by omega
          clear hn5
          by_cases hlt3 : j < (nbrs cx cy).length
          · obtain ⟨bb, off6, dx, dy, rfl, hbl6, hv, _, ga, gb, r0, r1⟩ := hin.rd.at_ hlt3
            have hdo : cellOk dx dy = true := nbrs_ok (c := (dx, dy)) (List.mem_of_getElem? hv)
            have hnext : ((nbrs cx cy).take (j + 1)).foldl (addS fr) L = addS fr M (dx, dy) := by rw [take_snoc_at hv, List.foldl_append, ← hM]; rfl
            obtain ⟨b6, cap6, rest6, hA6, _⟩ := own.blk' (by intro e; rw [e] at hML; simp at hML; have := Hm0.out; rw [hML] at this; simp at this; omega)
            obtain ⟨n1, hn1⟩ : ∃ n1, n1 = idxN (dx, dy) := ⟨_, rfl⟩
            have hn64 : n1 < 64 := by rw [hn1]; exact idxN_lt hdo
            have HI := Lib.hid (show ∀ w : World, Calls Try.prog 72 #[.agg #[.int .i64 dx, .int .i64 dy]] w fun e w' => e = .returned (.int .i64 (n1 : Nat)) ∧ Below w.heap.size w w' from fun w => by rw [hn1]; exact CellIndex_n dx dy w hdo)
            have hsb : regHas rs dx dy = (regSet rs).testBit n1 := by rw [hn1, regSet_bit HREG.out, of_idxN (c := (dx, dy)) hdo]
            have hfb : fr.testBit n1 = ((regSet rs).testBit n1 && !(covers laid).testBit n1) := by rw [HFR.out]; exact bdiff_bit hSlt hClt n1
            have hseen : (setL M).testBit n1 = decide ((dx, dy) ∈ M) := by
              have := setL_has (d := (dx, dy)) hMw.ok hdo
              unfold hasBit at this
              rw [hdo, Bool.true_and] at this
              rw [hn1]; exact this
            have hdn := domAt_neg (c := (dx, dy)) hdo laid 0 (Int.le_refl _)
            rw [← hn1] at hdn
            have HM5 := Lib.hid hM
            have HMw := Lib.hid hMw
            have Hnext := Lib.hid hnext
            have HN1 := Lib.hid hn1
            have HPc := HP4.out.c1
            have m1 := HM4.out.getB hn64
            have q0 := bq_cell r0
            have q1 := bq_cell r1
            have q2 := bq_cell HPc
            have Hin := Lib.hid hin
            have Ho := Lib.hid own
            have Hb5 := Hq
            clear hin own hv hM hMw hnext hA6 HPc Hq
            cases t1 : (regSet rs).testBit n1
            · have HSB := Lib.hid (hsb.trans t1)
              have Hst := Lib.hid (show addS fr M (dx, dy) = M by unfold addS; rw [if_neg (by rw [← hn1, hfb, t1]; simp)])
              clear t1 hsb hfb hseen hdn hn1
              go_wp2_with fail
              (refine wp_region_quiet_bel (by kernel_rfl) (by kernel_rfl) ?_; (repeat (first | go_big_quiet_step (first | (go_at_call 87; exact Calls.bel_of ((l03Has_any A c rs dx dy _ h8 (hr'.out.below (bl_trans hB (BelowOf.bel _))) hdo h255.out).mono (fun e w' h => ⟨h.1.trans (ret_bool HSB.out), h.2⟩))) | (go_at_call 72; exact Calls.bel_of (HI.out _)) | (go_at_call 116; exact Calls.bel_of (DominoAt_any B N d laid dx dy _ HN.out hl2 (hs'.out.below (bl_trans hB (BelowOf.bel _)))))) | quiet_step (first | (go_at_call 87; exact Calls.bel_of ((l03Has_any A c rs dx dy _ h8 (hr'.out.below (bl_trans hB (BelowOf.bel _))) hdo h255.out).mono (fun e w' h => ⟨h.1.trans (ret_bool HSB.out), h.2⟩))) | (go_at_call 72; exact Calls.bel_of (HI.out _)) | (go_at_call 116; exact Calls.bel_of (DominoAt_any B N d laid dx dy _ HN.out hl2 (hs'.out.below (bl_trans hB (BelowOf.bel _)))))))); refine wpQuiet_nil ?_; intro wq hw0; obtain ⟨⟨_, hbq⟩, hw1⟩ := hw0; subst hw1; try dsimp only)
              go_wp2_with fail
              go_roundw
              case rel => exact ⟨j + 1, by omega, by go_num, by rw [Hnext.out, Hst.out]; exact Ho.out.bel hbq, Hb5, Hin.out.bel hbq, Nat.le_trans hys hbq.size, by rw [Hnext.out, Hst.out]; exact Lib.hid (HM4.out.bel hbq), Lib.hid (HP4.out.bel hbq), Lib.hid (HQ4.out.bel hbq), bl_trans hB hbq⟩
              case measure => simp [intOf]; omega
            · have HSB := Lib.hid (hsb.trans t1)
              cases t2 : (setL M).testBit n1
              · have hnm : (dx, dy) ∉ M := by rw [t2] at hseen; exact of_decide_eq_false hseen.symm
                rw [t2] at m1
                have q3 := bq_cell m1
                cases t3 : (covers laid).testBit n1
                · have hdl : domAt laid (dx, dy) 0 < 0 := hdn.2 t3
                  have hst : addS fr M (dx, dy) = M ++ [(dx, dy)] := by unfold addS addC; rw [if_pos (by rw [← hn1, hfb, t1, t3]; rfl), if_neg hnm]
                  have Hst := Lib.hid hst
                  clear t1 t2 t3 hsb hfb hseen hdn hn1 hnm hst
                  go_wp2_with fail
                  (refine wp_region_quiet_bel (by kernel_rfl) (by kernel_rfl) ?_; (repeat (first | go_big_quiet_step (first | (go_at_call 87; exact Calls.bel_of ((l03Has_any A c rs dx dy _ h8 (hr'.out.below (bl_trans hB (BelowOf.bel _))) hdo h255.out).mono (fun e w' h => ⟨h.1.trans (ret_bool HSB.out), h.2⟩))) | (go_at_call 72; exact Calls.bel_of (HI.out _)) | (go_at_call 116; exact Calls.bel_of (DominoAt_any B N d laid dx dy _ HN.out hl2 (hs'.out.below (bl_trans hB (BelowOf.bel _)))))) | quiet_step (first | (go_at_call 87; exact Calls.bel_of ((l03Has_any A c rs dx dy _ h8 (hr'.out.below (bl_trans hB (BelowOf.bel _))) hdo h255.out).mono (fun e w' h => ⟨h.1.trans (ret_bool HSB.out), h.2⟩))) | (go_at_call 72; exact Calls.bel_of (HI.out _)) | (go_at_call 116; exact Calls.bel_of (DominoAt_any B N d laid dx dy _ HN.out hl2 (hs'.out.below (bl_trans hB (BelowOf.bel _)))))))); refine wpQuiet_nil ?_; intro wq hw0; obtain ⟨⟨_, hbq⟩, hw1⟩ := hw0; subst hw1; try dsimp only)
                  replace hB := bl_trans hB hbq
                  replace Ho := Lib.hid (Ho.out.bel hbq)
                  replace Hin := Lib.hid (Hin.out.bel hbq)
                  have hys2 := Nat.le_trans hys hbq.size
                  have hba : wo.heap.size ≤ bb := (Hin.out.rng bb rfl).1
                  have hbb : bb < wq.heap.size := by have := (Hin.out.rng bb rfl).2; omega
                  have Mq := HM4.out.bel hbq
                  have Pq := HP4.out.bel hbq
                  have Qq := HQ4.out.bel hbq
                  have f0 := q0 ⟨wq, hbq⟩
                  have f1 := q1 ⟨wq, hbq⟩
                  dsimp only at f0 f1
                  clear q0 q1 q2 q3 r0 r1 m1
                  go_wp2_with fail
                  (refine (HI.out _).mono ?_; rintro e wn ⟨rfl, hbn⟩; have hSz := bl_sz (bl_trans hB (by go_grown)) hbn; replace hB := bl_trans (bl_trans hB (by go_grown)) hbn; have hqz := hbn.size; replace Mq := Mq.bel hbn; have m1 := Mq.getB hn64; have mf := Mq.frozen n1; replace Mq := Mq.setB n1; replace Pq := (Pq.bel hbn).farN (w.heap.size + 1 + 1) n1 (by omega) (.bool true); replace Qq := (Qq.bel hbn).farN (w.heap.size + 1 + 1) n1 (by omega) (.bool true); replace Ho := Lib.hid ((Ho.out.bel hbn).set' (p := ⟨w.heap.size + 1 + 1, n1, none⟩) (Nat.lt_succ_self _) (.bool true)); replace Hin := Lib.hid ((Hin.out.bel hbn).set_ (p := ⟨w.heap.size + 1 + 1, n1, none⟩) hMlo (.bool true)); replace f0 := (World.cell?_setCell_other wn ⟨w.heap.size + 1 + 1, n1, none⟩ _ (.bool true) (by intro h; injection h with h1; omega)).trans ((hbn.cell (p := ⟨bb, off6 + j * 2, none⟩) hbb).trans f0); replace f1 := (World.cell?_setCell_other wn ⟨w.heap.size + 1 + 1, n1, none⟩ _ (.bool true) (by intro h; injection h with h1; omega)).trans ((hbn.cell (p := ⟨bb, off6 + j * 2 + 1, none⟩) hbb).trans f1); replace hB := bl_set hB (p := ⟨w.heap.size + 1 + 1, n1, none⟩) (by show w.heap.size ≤ w.heap.size + 1 + 1; omega) (.bool true); have hsz9 : (wn.setCell ⟨w.heap.size + 1 + 1, n1, none⟩ (.bool true)).heap.size = wn.heap.size := (by simp); clear hbn)
                  have hsz8 := hB.size
                  have HMset := Lib.hid (show setL M ||| 2 ^ n1 = setL (M ++ [(dx, dy)]) by rw [setL_snoc, HN1.out]; rfl)
                  go_wp2_with (go_loud (at_builtin; refine wpList_atC rfl (.tmp 74) (.tmp 79) rfl (w.heap.size + 1 + 1 + 1) _ M dx dy rfl (by rw [hsz9]; first | done | rfl) Ho.out (by rw [hsz9]; omega) hml ga gb ?_; intro v' w1 ho1 hb1 hg1 hat1 hsz1))
                  have hrr := hb1 _ (Below.refl (w.heap.size + 1 + 1 + 1) _)
                  go_roundw
                  case rel => exact ⟨j + 1, by omega, by go_num, by rw [Hnext.out, Hst.out]; exact ho1, Lib.hid (fun b hb => by
                    rcases hat1 with h1 | h1
                    · exact Hb5.out b (h1 ▸ hb)
                    · rw [h1] at hb; injection hb with hb; right; omega), Hin.out.far hg1 Hb5.out, by omega, by rw [Hnext.out, Hst.out, ← HMset.out]; exact Lib.hid (Mq.below hrr (Nat.lt_succ_self _)), Lib.hid (Pq.below hrr (by omega)), Lib.hid (Qq.below hrr (by omega)), hB.trans (hrr.mono (by omega))⟩
                  case measure => simp [intOf]; omega
                · have hdl : ¬ domAt laid (dx, dy) 0 < 0 := fun h => by rw [hdn.1 h] at t3; cases t3
                  have Hst := Lib.hid (show addS fr M (dx, dy) = M by unfold addS; rw [if_neg (by rw [← hn1, hfb, t1, t3]; simp)])
                  clear t1 t2 t3 hsb hfb hseen hdn hn1 hnm
                  go_wp2_with fail
                  (refine wp_region_quiet_bel (by kernel_rfl) (by kernel_rfl) ?_; (repeat (first | go_big_quiet_step (first | (go_at_call 87; exact Calls.bel_of ((l03Has_any A c rs dx dy _ h8 (hr'.out.below (bl_trans hB (BelowOf.bel _))) hdo h255.out).mono (fun e w' h => ⟨h.1.trans (ret_bool HSB.out), h.2⟩))) | (go_at_call 72; exact Calls.bel_of (HI.out _)) | (go_at_call 116; exact Calls.bel_of (DominoAt_any B N d laid dx dy _ HN.out hl2 (hs'.out.below (bl_trans hB (BelowOf.bel _)))))) | quiet_step (first | (go_at_call 87; exact Calls.bel_of ((l03Has_any A c rs dx dy _ h8 (hr'.out.below (bl_trans hB (BelowOf.bel _))) hdo h255.out).mono (fun e w' h => ⟨h.1.trans (ret_bool HSB.out), h.2⟩))) | (go_at_call 72; exact Calls.bel_of (HI.out _)) | (go_at_call 116; exact Calls.bel_of (DominoAt_any B N d laid dx dy _ HN.out hl2 (hs'.out.below (bl_trans hB (BelowOf.bel _)))))))); refine wpQuiet_nil ?_; intro wq hw0; obtain ⟨⟨_, hbq⟩, hw1⟩ := hw0; subst hw1; try dsimp only)
                  go_wp2_with fail
                  go_roundw
                  case rel => exact ⟨j + 1, by omega, by go_num, by rw [Hnext.out, Hst.out]; exact Ho.out.bel hbq, Hb5, Hin.out.bel hbq, Nat.le_trans hys hbq.size, by rw [Hnext.out, Hst.out]; exact Lib.hid (HM4.out.bel hbq), Lib.hid (HP4.out.bel hbq), Lib.hid (HQ4.out.bel hbq), bl_trans hB hbq⟩
                  case measure => simp [intOf]; omega
              · have hmm : (dx, dy) ∈ M := by rw [t2] at hseen; exact of_decide_eq_true hseen.symm
                rw [t2] at m1
                have q3 := bq_cell m1
                have Hst := Lib.hid (show addS fr M (dx, dy) = M by unfold addS addC; rw [if_pos hmm]; split <;> rfl)
                clear t1 t2 hsb hfb hseen hdn hn1 hmm
                go_wp2_with fail
                (refine wp_region_quiet_bel (by kernel_rfl) (by kernel_rfl) ?_; (repeat (first | go_big_quiet_step (first | (go_at_call 87; exact Calls.bel_of ((l03Has_any A c rs dx dy _ h8 (hr'.out.below (bl_trans hB (BelowOf.bel _))) hdo h255.out).mono (fun e w' h => ⟨h.1.trans (ret_bool HSB.out), h.2⟩))) | (go_at_call 72; exact Calls.bel_of (HI.out _)) | (go_at_call 116; exact Calls.bel_of (DominoAt_any B N d laid dx dy _ HN.out hl2 (hs'.out.below (bl_trans hB (BelowOf.bel _)))))) | quiet_step (first | (go_at_call 87; exact Calls.bel_of ((l03Has_any A c rs dx dy _ h8 (hr'.out.below (bl_trans hB (BelowOf.bel _))) hdo h255.out).mono (fun e w' h => ⟨h.1.trans (ret_bool HSB.out), h.2⟩))) | (go_at_call 72; exact Calls.bel_of (HI.out _)) | (go_at_call 116; exact Calls.bel_of (DominoAt_any B N d laid dx dy _ HN.out hl2 (hs'.out.below (bl_trans hB (BelowOf.bel _)))))))); refine wpQuiet_nil ?_; intro wq hw0; obtain ⟨⟨_, hbq⟩, hw1⟩ := hw0; subst hw1; try dsimp only)
                go_wp2_with fail
                go_roundw
                case rel => exact ⟨j + 1, by omega, by go_num, by rw [Hnext.out, Hst.out]; exact Ho.out.bel hbq, Hb5, Hin.out.bel hbq, Nat.le_trans hys hbq.size, by rw [Hnext.out, Hst.out]; exact Lib.hid (HM4.out.bel hbq), Lib.hid (HP4.out.bel hbq), Lib.hid (HQ4.out.bel hbq), bl_trans hB hbq⟩
                case measure => simp [intOf]; omega
          · have hjn : j = (nbrs cx cy).length := by omega
            subst hjn
            rw [List.take_length] at hM
            have hfin : bfs fr (65 - (k + 1)) (k + 1) M = reachL fr (x, y) := by
              rw [← HR.out, hM, ← grow_nbrs fr L (cx, cy), show 65 - k = (65 - (k + 1)) + 1 by omega, bfs_step HLk.out]
            have hkM : k + 1 ≤ M.length := by have := Hm0.out; omega
            have HF := Lib.hid hfin
            have HMw := Lib.hid hMw
            have Ho := Lib.hid own
            clear hM hfin hMw own hin
            go_wp2_with fail
            go_roundw
            case rel => exact ⟨M, k + 1, hkM, by go_num, Ho.out, HMw, HF, HM4, HP4, HQ4, hB⟩
            case measure => simp [intOf]; omega
      · have hRL : L = reachL fr (x, y) := by rw [← HR.out, bfs_end (by have := Hm0.out; omega)]
        have HM6 := Lib.hid (show Blk wr (w.heap.size + 1 + 1) 4 (mkB (reachedS rs laid (x, y))) by rw [HRS.out, ← hRL]; exact HM.out)
        clear hRL own
        go_wp2_with fail
        go_ret
        exact ⟨_, rfl, ⟨by omega, HM6.out⟩, hB⟩
  · have hge : 0 ≤ domAt laid (x, y) 0 := by
      rcases Int.lt_or_le (domAt laid (x, y) 0) 0 with h | h
      · rw [hneg.1 h] at t0; cases t0
      · exact h
    have HRS := Lib.hid (show reachedS rs laid (x, y) = 0 by unfold reachedS; rw [← hn0, t0]; rfl)
    clear hneg t0 hn0
    go_enter Try.func109, Try.ntmps109
    go_wp2_with (go_at_call 116; refine (DominoAt_any B N d laid x y _ HN.out hl2 (hs'.out.below hB)).mono ?_; rintro e wn ⟨rfl, hbn⟩; have hSz := bl_sz (bl_trans hB (by go_grown)) hbn; replace hB := bl_trans (bl_trans hB (by go_grown)) hbn; replace P := P.bel (bl_trans (by go_grown) hbn); replace Pc := P.c1; replace Q := Q.bel (bl_trans (by go_grown) hbn); replace Qc := Q.c2; replace M := M.bel hbn; clear hbn)
    go_ret
    exact ⟨_, rfl, ⟨by omega, by rw [HRS.out]; exact M⟩, hB⟩
def canLayB (free : Nat) (c : Cl) (d : Dm) : Bool := okD d && free.testBit (idxN c) && (setL (reachL free c) &&& ownD d == ownD d)
def canLayR (rs : List Int) (c : Cl) (laid : List Dm) (d : Dm) : Bool := (regOk rs && cellOk c.1 c.2 && regHas rs c.1 c.2) && isPartial rs (sortD laid) && canLayB (bdiff (regSet rs) (covers laid)) c d
theorem takeH_ {P : Program} {md : Region.Mode} {ops : Array Oper} {Q : Exit → Act → World → Prop} {S : World → Prop} {i : Nat} {oi : Oper} {d : Option Tmp} {v : Value} {fuel : Nat} {listed : Array Bool} {a : Act} {w : World} (hi : ops[i]? = some oi) (hd : oi.dst = d)
    (hs : Region.noSelect ops = true) (hf : Region.free md ops listed i = true) (hr : (Region.ready md ops listed).contains i = true)
    (hQ : ∀ c a w, Q (.panic c) (a.put d v) w → Q (.panic c) a w) (hy : YieldsIf P ops S oi v a) (hS : S w)
    (h : wpAnyH P md ops Q S fuel (listed.setIfInBounds i true) (a.put d v) w) : wpAnyH P md ops Q S (fuel + 1) listed a w := by
  subst hd; exact wpAnyH_take hi hs hf hr hQ hy hS h
theorem covered_N (A : Option Addr) (N c : Nat) (l : List Dm) (w : World) (hN : N = l.length) (hl : N ≤ 1048576) (hr : RdD w A l) :
    Calls Try.prog 113 #[.slice A N c] w fun e w' => e = .returned (.int .u64 (covers l)) ∧ Below w.heap.size w w' := by
  subst hN; exact covered_any A c l w hl hr
set_option maxRecDepth 100000 in
set_option maxHeartbeats 1000000 in
theorem canLay_any (s : Nat) (x y u v : Int) (z : Bool) (w : World) (hs : s < 18446744073709551616) (h : cellOk x y = true) :
    Calls Try.prog 112 #[.int .u64 s, .agg #[.int .i64 x, .int .i64 y], .agg #[.int .i64 u, .int .i64 v, .bool z]] w fun e w' => e = .returned (.bool (canLayB s (x, y) (u, v, z))) ∧ Below w.heap.size w w' := by
  (have hB := Below.refl w.heap.size w; have P := (Blk.new w 70 [.int .i64 x, .int .i64 y]).alloc (.cells #[.int .i64 u, .int .i64 v, .bool z] 65); have Pc := P.c2; have Q := Blk.new2 w (.cells #[.int .i64 x, .int .i64 y] 70) 65 [.int .i64 u, .int .i64 v, .bool z]; have Qc := Q.c3)
  have hb : hasBit s x y = s.testBit (idxN (x, y)) := by unfold hasBit; rw [h]; rfl
  cases c1 : domOk u v z
  · have C1 := Lib.hid c1
    have H := Lib.hid (show canLayB s (x, y) (u, v, z) = false by unfold canLayB okD; dsimp only; rw [c1]; rfl)
    clear c1
    go_enter Try.func112, Try.ntmps112
    go_wp2_with (go_at_call 102; refine (DominoOk_i u v z _).mono ?_; rintro e wn ⟨rfl, hbn⟩; have hSz := bl_sz (bl_trans hB (by go_grown)) hbn; replace hB := bl_trans (bl_trans hB (by go_grown)) hbn; replace P := P.bel (bl_trans (by go_grown) hbn); replace Pc := P.c2; replace Q := Q.bel (bl_trans (by go_grown) hbn); replace Qc := Q.c3; rw [C1.out]; clear hbn)
    go_ret
    exact ⟨ret_bool (by rw [H.out]), hB⟩
  · cases c2 : s.testBit (idxN (x, y))
    · have C1 := Lib.hid c1
      have C2 := Lib.hid (hb.trans c2)
      have H := Lib.hid (show canLayB s (x, y) (u, v, z) = false by unfold canLayB okD; dsimp only; rw [c1, c2]; rfl)
      clear c1 c2 hb
      go_enter Try.func112, Try.ntmps112
      go_wp2_with (first | (go_at_call 102; refine (DominoOk_i u v z _).mono ?_; rintro e wn ⟨rfl, hbn⟩; have hSz := bl_sz (bl_trans hB (by go_grown)) hbn; replace hB := bl_trans (bl_trans hB (by go_grown)) hbn; replace P := P.bel (bl_trans (by go_grown) hbn); replace Pc := P.c2; replace Q := Q.bel (bl_trans (by go_grown) hbn); replace Qc := Q.c3; rw [C1.out]; clear hbn) | (go_at_call 97; refine (has_any s x y _ hs).mono ?_; rintro e wn ⟨rfl, hbn⟩; have hSz := bl_sz (bl_trans hB (by go_grown)) hbn; replace hB := bl_trans (bl_trans hB (by go_grown)) hbn; replace P := P.bel (bl_trans (by go_grown) hbn); replace Pc := P.c2; replace Q := Q.bel (bl_trans (by go_grown) hbn); replace Qc := Q.c3; rw [C2.out]; clear hbn))
      go_ret
      exact ⟨ret_bool (by rw [H.out]), hB⟩
    · have C1 := Lib.hid c1
      have C2 := Lib.hid (hb.trans c2)
      obtain ⟨o, ho⟩ : ∃ o, o = ownD (u, v, z) := ⟨_, rfl⟩
      have hol : o < 18446744073709551616 := ho ▸ ownD_lt c1
      obtain ⟨R, hR⟩ : ∃ R, R = setL (reachL s (x, y)) := ⟨_, rfl⟩
      have hRl : R < 18446744073709551616 := hR ▸ setL_lt (fun c hc => (reachL_wf s h).ok c hc)
      have H := Lib.hid (show canLayB s (x, y) (u, v, z) = (R &&& o == o) by unfold canLayB okD; dsimp only; rw [c1, c2, ← hR, ← ho]; rfl)
      have HR := Lib.hid hR
      have HO := Lib.hid ho
      have hand := Lib.hid (u64_and_nat R o hRl hol)
      clear c1 c2 hb hR ho
      go_enter Try.func112, Try.ntmps112
      go_wp2_with (first | (go_at_call 102; refine (DominoOk_i u v z _).mono ?_; rintro e wn ⟨rfl, hbn⟩; have hSz := bl_sz (bl_trans hB (by go_grown)) hbn; replace hB := bl_trans (bl_trans hB (by go_grown)) hbn; replace P := P.bel (bl_trans (by go_grown) hbn); replace Pc := P.c2; replace Q := Q.bel (bl_trans (by go_grown) hbn); replace Qc := Q.c3; rw [C1.out]; clear hbn) | (go_at_call 97; refine (has_any s x y _ hs).mono ?_; rintro e wn ⟨rfl, hbn⟩; have hSz := bl_sz (bl_trans hB (by go_grown)) hbn; replace hB := bl_trans (bl_trans hB (by go_grown)) hbn; replace P := P.bel (bl_trans (by go_grown) hbn); replace Pc := P.c2; replace Q := Q.bel (bl_trans (by go_grown) hbn); replace Qc := Q.c3; rw [C2.out]; clear hbn) | (go_at_call 136; refine (dset_d _ _ _ o _ C1.out HO.out.symm).mono ?_; rintro e wn ⟨rfl, hbn⟩; have hSz := bl_sz (bl_trans hB (by go_grown)) hbn; replace hB := bl_trans (bl_trans hB (by go_grown)) hbn; replace P := P.bel (bl_trans (by go_grown) hbn); replace Pc := P.c2; replace Q := Q.bel (bl_trans (by go_grown) hbn); replace Qc := Q.c3; skip; clear hbn) | (go_at_call 141; refine (reach_any s x y _ hs h).mono ?_; rintro e wn ⟨rfl, hbn⟩; have hSz := bl_sz (bl_trans hB (by go_grown)) hbn; replace hB := bl_trans (bl_trans hB (by go_grown)) hbn; replace P := P.bel (bl_trans (by go_grown) hbn); replace Pc := P.c2; replace Q := Q.bel (bl_trans (by go_grown) hbn); replace Qc := Q.c3; rw [← HR.out]; clear hbn))
      go_ret
      exact ⟨ret_bool (by rw [H.out, hand.out, Bool.eq_iff_iff]; simp <;> omega), hB⟩
set_option maxRecDepth 100000 in
set_option maxHeartbeats 2000000 in
theorem CanLay_i (A : Option Addr) (c : Nat) (rs : List Int) (x y : Int) (B : Option Addr) (N d : Nat) (laid : List Dm) (u v : Int) (z : Bool) (w : World) (hl : rs.length ≤ 1048576) (hN : N = laid.length) (hl2 : N ≤ 1048576) (hr : RdI w A rs) (hs : RdD w B laid) :
    Calls Try.prog 53 #[.agg #[.slice A rs.length c], .agg #[.int .i64 x, .int .i64 y], .slice B N d, .agg #[.int .i64 u, .int .i64 v, .bool z]] w fun e w' => e = .returned (.bool (canLayR rs (x, y) laid (u, v, z))) ∧ Below w.heap.size w w' := by
  have hr' := Lib.hid hr
  have hs' := Lib.hid hs
  have HN := Lib.hid hN
  have hB := bl_alloc (bl_alloc (bl_alloc (Below.refl w.heap.size w) (.cells #[.slice A rs.length c] 39)) (.cells #[.int .i64 x, .int .i64 y] 70)) (.cells #[.int .i64 u, .int .i64 v, .bool z] 65)
  have P := ((Blk.new w 39 [.slice A rs.length c]).alloc (.cells #[.int .i64 x, .int .i64 y] 70)).alloc (.cells #[.int .i64 u, .int .i64 v, .bool z] 65)
  have Q := (Blk.new2 w (.cells #[.slice A rs.length c] 39) 70 [.int .i64 x, .int .i64 y]).alloc (.cells #[.int .i64 u, .int .i64 v, .bool z] 65)
  have D := Blk.new3 w (.cells #[.slice A rs.length c] 39) (.cells #[.int .i64 x, .int .i64 y] 70) 65 [.int .i64 u, .int .i64 v, .bool z]
  have Pc := P.c1
  have Qc := Q.c2
  have Dc := D.c3
  have hsl : (sortD laid).length ≤ 1048576 := by have := sortD_len laid; omega
  have HC := Lib.hid hsl
  clear hr hs hN hsl
  cases c1 : (regOk rs && cellOk x y && regHas rs x y)
  · have C1 := Lib.hid c1
    have H := Lib.hid (show canLayR rs (x, y) laid (u, v, z) = false by unfold canLayR; dsimp only; rw [c1]; rfl)
    clear c1
    go_enter Try.func53, Try.ntmps53
    go_wp2_with fail
    have p0 := bq_cell Pc
    have q0 := bq_cell Qc.1
    have q1 := bq_cell Qc.2
    (refine wp_region_quiet_bel (by kernel_rfl) (by kernel_rfl) ?_; (repeat (first | go_big_quiet_step ((go_at_call 90; exact Calls.bel_of ((HasCell_i A c rs x y _ hl (hr'.out.below (bl_trans hB (BelowOf.bel _)))).mono (fun e w' h => ⟨h.1.trans (ret_bool C1.out), h.2⟩)))) | quiet_step ((go_at_call 90; exact Calls.bel_of ((HasCell_i A c rs x y _ hl (hr'.out.below (bl_trans hB (BelowOf.bel _)))).mono (fun e w' h => ⟨h.1.trans (ret_bool C1.out), h.2⟩)))))); refine wpQuiet_nil ?_; intro wq hw0; obtain ⟨⟨_, hbq⟩, hw1⟩ := hw0; subst hw1; try dsimp only)
    go_wp2_with fail
    go_ret
    exact ⟨ret_bool (by rw [H.out]), bl_trans hB hbq⟩
  · obtain ⟨⟨hreg, hok⟩, _⟩ : (regOk rs = true ∧ cellOk x y = true) ∧ regHas rs x y = true := by simpa using c1
    cases c2 : isPartial rs (sortD laid)
    · have C1 := Lib.hid c1
      have C2 := Lib.hid c2
      have H := Lib.hid (show canLayR rs (x, y) laid (u, v, z) = false by unfold canLayR; dsimp only; rw [c1, c2]; rfl)
      clear c1 c2
      go_enter Try.func53, Try.ntmps53
      go_wp2_with fail
      refine wp_region_held_drew (S := (fun w' : World => w'.cell? ⟨w.heap.size, 0, none⟩ = some (.slice A rs.length c) ∧ w'.cell? ⟨w.heap.size + 1, 0, none⟩ = some (.int .i64 x) ∧ w'.cell? ⟨w.heap.size + 1, 1, none⟩ = some (.int .i64 y))) (by kernel_rfl) ?_ (fun hHeld => ?_)
      · (try dsimp only); go_keep
      refine takeH_ (i := 0) (d := some 9) (v := ?v0) rfl rfl (by kernel_rfl) (by kernel_rfl) (by kernel_rfl) (fun _ _ _ h => h) (Or.inl ⟨by rfl, ?hy0⟩) (by assumption) ?rest0
      case hy0 => (intro w hSw; (try dsimp only at hSw); go_simp; first | done | with_reducible rfl)
      (try simp only [Act.put, List.setIfInBounds_toArray, List.set_cons_zero, List.set_cons_succ])
      refine takeH_ (i := 1) (d := some 10) (v := ?v1) rfl rfl (by kernel_rfl) (by kernel_rfl) (by kernel_rfl) (fun _ _ _ h => h) (Or.inl ⟨by rfl, ?hy1⟩) (by assumption) ?rest1
      case hy1 => (intro w hSw; (try dsimp only at hSw); go_simp; first | done | with_reducible rfl)
      (try simp only [Act.put, List.setIfInBounds_toArray, List.set_cons_zero, List.set_cons_succ])
      refine wpAnyH_ready (rs := [2]) (by kernel_rfl) (by simp) ?_
      refine AllReadyH.cons rfl (fun K hK => ?_) AllReadyH.nil
      go_simp
      (go_at_call 90; refine (HasCell_i A c rs x y _ hl (hr'.out.below (bl_trans hB (by go_grown)))).mono ?_; rintro e wn ⟨rfl, hbn⟩; have hSz := bl_sz (bl_trans hB (by go_grown)) hbn; replace hB := bl_trans (bl_trans hB (by go_grown)) hbn; replace P := P.bel (bl_trans (by go_grown) hbn); replace Pc := P.c1; replace Q := Q.bel (bl_trans (by go_grown) hbn); replace Qc := Q.c2; replace D := D.bel (bl_trans (by go_grown) hbn); replace Dc := D.c3; rw [C1.out]; clear hbn)
      refine hK.out _ _ ?_ (fun hHeld => ?_)
      · (try dsimp only); go_keep
      clear hK K
      (try simp only [Act.put, List.setIfInBounds_toArray, List.set_cons_zero, List.set_cons_succ])
      refine takeH_ (i := 3) (d := some 12) (v := ?v3) rfl rfl (by kernel_rfl) (by kernel_rfl) (by kernel_rfl) (fun _ _ _ h => h) (Or.inl ⟨by rfl, ?hy3⟩) (by assumption) ?rest3
      case hy3 => (intro w hSw; (try dsimp only at hSw); go_simp; first | done | with_reducible rfl)
      (try simp only [Act.put, List.setIfInBounds_toArray, List.set_cons_zero, List.set_cons_succ])
      refine takeH_ (i := 4) (d := some 13) (v := ?v4) rfl rfl (by kernel_rfl) (by kernel_rfl) (by kernel_rfl) (fun _ _ _ h => h) (Or.inl ⟨by rfl, ?hy4⟩) (by assumption) ?rest4
      case hy4 => (intro w hSw; (try dsimp only at hSw); go_simp; first | done | with_reducible rfl)
      (try simp only [Act.put, List.setIfInBounds_toArray, List.set_cons_zero, List.set_cons_succ])
      refine takeH_ (i := 5) (d := some 14) (v := ?v5) rfl rfl (by kernel_rfl) (by kernel_rfl) (by kernel_rfl) (fun _ _ _ h => h) (Or.inl ⟨by rfl, ?hy5⟩) (by assumption) ?rest5
      case hy5 => (intro w hSw; (try dsimp only at hSw); go_simp; first | done | with_reducible rfl)
      (try simp only [Act.put, List.setIfInBounds_toArray, List.set_cons_zero, List.set_cons_succ])
      refine wpAnyH_ready (rs := [6]) (by kernel_rfl) (by simp) ?_
      refine AllReadyH.cons rfl (fun K hK => ?_) AllReadyH.nil
      go_simp
      (go_at_call 111; refine (SortDominoes_i B N d laid _ HN.out hl2 (hs'.out.below (bl_trans hB (by go_grown)))).mono ?_; rintro e wn ⟨v1, rfl, o1, hbn⟩; have hSz := bl_sz (bl_trans hB (by go_grown)) hbn; replace hB := bl_trans (bl_trans hB (by go_grown)) hbn; replace P := P.bel (bl_trans (by go_grown) hbn); replace Pc := P.c1; replace Q := Q.bel (bl_trans (by go_grown) hbn); replace Qc := Q.c2; replace D := D.bel (bl_trans (by go_grown) hbn); replace Dc := D.c3; obtain ⟨⟨A1, c9, rfl⟩, _⟩ := id o1; have O1 := Lib.hid o1; clear o1; clear hbn)
      refine hK.out _ _ ?_ (fun hHeld => ?_)
      · (try dsimp only); go_keep
      clear hK K
      (try simp only [Act.put, List.setIfInBounds_toArray, List.set_cons_zero, List.set_cons_succ])
      refine wpAnyH_ready (rs := [7]) (by kernel_rfl) (by simp) ?_
      refine AllReadyH.cons rfl (fun K hK => ?_) AllReadyH.nil
      go_simp
      (go_at_call 110; refine (IsPartial_i A c rs _ _ _ (sortD laid) _ hl rfl HC.out (hr'.out.below (bl_trans hB (by go_grown))) (O1.out.rd.below (by go_grown))).mono ?_; rintro e wn ⟨rfl, hbn⟩; have hSz := bl_sz (bl_trans hB (by go_grown)) hbn; replace hB := bl_trans (bl_trans hB (by go_grown)) hbn; replace P := P.bel (bl_trans (by go_grown) hbn); replace Pc := P.c1; replace Q := Q.bel (bl_trans (by go_grown) hbn); replace Qc := Q.c2; replace D := D.bel (bl_trans (by go_grown) hbn); replace Dc := D.c3; rw [C2.out]; clear hbn)
      refine hK.out _ _ ?_ (fun hHeld => ?_)
      · (try dsimp only); go_keep
      clear hK K
      (try simp only [Act.put, List.setIfInBounds_toArray, List.set_cons_zero, List.set_cons_succ])
      refine takeH_ (i := 8) (d := some 17) (v := ?v8) rfl rfl (by kernel_rfl) (by kernel_rfl) (by kernel_rfl) (fun _ _ _ h => h) (Or.inl ⟨by rfl, ?hy8⟩) (by assumption) ?rest8
      case hy8 => (intro w hSw; (try dsimp only at hSw); go_simp; first | done | with_reducible rfl)
      (try simp only [Act.put, List.setIfInBounds_toArray, List.set_cons_zero, List.set_cons_succ])
      refine takeH_ (i := 9) (d := some 18) (v := ?v9) rfl rfl (by kernel_rfl) (by kernel_rfl) (by kernel_rfl) (fun _ _ _ h => h) (Or.inl ⟨by rfl, ?hy9⟩) (by assumption) ?rest9
      case hy9 => (intro w hSw; (try dsimp only at hSw); go_simp; first | done | with_reducible rfl)
      (try simp only [Act.put, List.setIfInBounds_toArray, List.set_cons_zero, List.set_cons_succ])
      refine takeH_ (i := 10) (d := some 19) (v := undef) rfl rfl (by kernel_rfl) (by kernel_rfl) (by kernel_rfl) (fun _ _ _ h => h) (Or.inr ⟨by rfl, rfl⟩) (by assumption) ?_
      (try simp only [Act.put, List.setIfInBounds_toArray, List.set_cons_zero, List.set_cons_succ])
      refine takeH_ (i := 11) (d := some 20) (v := undef) rfl rfl (by kernel_rfl) (by kernel_rfl) (by kernel_rfl) (fun _ _ _ h => h) (Or.inr ⟨by rfl, rfl⟩) (by assumption) ?_
      (try simp only [Act.put, List.setIfInBounds_toArray, List.set_cons_zero, List.set_cons_succ])
      refine takeH_ (i := 12) (d := some 21) (v := undef) rfl rfl (by kernel_rfl) (by kernel_rfl) (by kernel_rfl) (fun _ _ _ h => h) (Or.inr ⟨by rfl, rfl⟩) (by assumption) ?_
      (try simp only [Act.put, List.setIfInBounds_toArray, List.set_cons_zero, List.set_cons_succ])
      refine takeH_ (i := 13) (d := some 22) (v := undef) rfl rfl (by kernel_rfl) (by kernel_rfl) (by kernel_rfl) (fun _ _ _ h => h) (Or.inr ⟨by rfl, rfl⟩) (by assumption) ?_
      (try simp only [Act.put, List.setIfInBounds_toArray, List.set_cons_zero, List.set_cons_succ])
      refine takeH_ (i := 14) (d := some 23) (v := undef) rfl rfl (by kernel_rfl) (by kernel_rfl) (by kernel_rfl) (fun _ _ _ h => h) (Or.inr ⟨by rfl, rfl⟩) (by assumption) ?_
      (try simp only [Act.put, List.setIfInBounds_toArray, List.set_cons_zero, List.set_cons_succ])
      refine takeH_ (i := 15) (d := some 24) (v := undef) rfl rfl (by kernel_rfl) (by kernel_rfl) (by kernel_rfl) (fun _ _ _ h => h) (Or.inr ⟨by rfl, rfl⟩) (by assumption) ?_
      (try simp only [Act.put, List.setIfInBounds_toArray, List.set_cons_zero, List.set_cons_succ])
      refine takeH_ (i := 16) (d := some 25) (v := undef) rfl rfl (by kernel_rfl) (by kernel_rfl) (by kernel_rfl) (fun _ _ _ h => h) (Or.inr ⟨by rfl, rfl⟩) (by assumption) ?_
      (try simp only [Act.put, List.setIfInBounds_toArray, List.set_cons_zero, List.set_cons_succ])
      refine takeH_ (i := 17) (d := some 26) (v := undef) rfl rfl (by kernel_rfl) (by kernel_rfl) (by kernel_rfl) (fun _ _ _ h => h) (Or.inr ⟨by rfl, rfl⟩) (by assumption) ?_
      (try simp only [Act.put, List.setIfInBounds_toArray, List.set_cons_zero, List.set_cons_succ])
      refine takeH_ (i := 18) (d := some 27) (v := ?v18) rfl rfl (by kernel_rfl) (by kernel_rfl) (by kernel_rfl) (fun _ _ _ h => h) (Or.inl ⟨by rfl, ?hy18⟩) (by assumption) ?rest18
      case hy18 => (intro w hSw; (try dsimp only at hSw); go_simp; first | done | with_reducible rfl)
      (try simp only [Act.put, List.setIfInBounds_toArray, List.set_cons_zero, List.set_cons_succ])
      refine takeH_ (i := 19) (d := some 8) (v := ?v19) rfl rfl (by kernel_rfl) (by kernel_rfl) (by kernel_rfl) (fun _ _ _ h => h) (Or.inl ⟨by rfl, ?hy19⟩) (by assumption) ?rest19
      case hy19 => (intro w hSw; (try dsimp only at hSw); go_simp; first | done | with_reducible rfl)
      (try simp only [Act.put, List.setIfInBounds_toArray, List.set_cons_zero, List.set_cons_succ])
      refine wpAnyH_done (by kernel_rfl) ?_ _
      all_goals (go_wp2_with fail; go_ret; exact ⟨ret_bool (by rw [H.out]), hB⟩)
    · have C1 := Lib.hid c1
      have C2 := Lib.hid c2
      obtain ⟨cv, hcv⟩ : ∃ cv, cv = covers laid := ⟨_, rfl⟩
      obtain ⟨sr, hsr⟩ : ∃ sr, sr = regSet rs := ⟨_, rfl⟩
      have hcl : cv < 18446744073709551616 := hcv ▸ covers_lt laid
      have hsl : sr < 18446744073709551616 := hsr ▸ regSet_lt hreg
      have H := Lib.hid (show canLayR rs (x, y) laid (u, v, z) = canLayB (bdiff sr cv) (x, y) (u, v, z) by unfold canLayR; dsimp only; rw [c1, c2, ← hcv, ← hsr]; rfl)
      have HCV := Lib.hid hcv
      have HSR := Lib.hid hsr
      have hbd := bdiff_lt (b := cv) hsl
      have handn := u64_andNot_nat sr cv hsl hcl
      have HREG := Lib.hid hreg
      have HOK := Lib.hid hok
      clear c1 c2 hcv hsr hreg hok
      go_enter Try.func53, Try.ntmps53
      go_wp2_with fail
      go_region_held3 (fun w' => w'.cell? ⟨w.heap.size, 0, none⟩ = some (.slice A rs.length c) ∧ w'.cell? ⟨w.heap.size + 1, 0, none⟩ = some (.int .i64 x) ∧ w'.cell? ⟨w.heap.size + 1, 1, none⟩ = some (.int .i64 y) ∧ w'.cell? ⟨w.heap.size + 1 + 1, 0, none⟩ = some (.int .i64 u) ∧ w'.cell? ⟨w.heap.size + 1 + 1, 1, none⟩ = some (.int .i64 v) ∧ w'.cell? ⟨w.heap.size + 1 + 1, 2, none⟩ = some (.bool z)) (go_keep)
        (first | (go_at_call 90; refine (HasCell_i A c rs x y _ hl (hr'.out.below (bl_trans hB (by go_grown)))).mono ?_; rintro e wn ⟨rfl, hbn⟩; have hSz := bl_sz (bl_trans hB (by go_grown)) hbn; replace hB := bl_trans (bl_trans hB (by go_grown)) hbn; replace P := P.bel (bl_trans (by go_grown) hbn); replace Pc := P.c1; replace Q := Q.bel (bl_trans (by go_grown) hbn); replace Qc := Q.c2; replace D := D.bel (bl_trans (by go_grown) hbn); replace Dc := D.c3; rw [C1.out]; clear hbn) | (go_at_call 111; refine (SortDominoes_i B N d laid _ HN.out hl2 (hs'.out.below (bl_trans hB (by go_grown)))).mono ?_; rintro e wn ⟨v1, rfl, o1, hbn⟩; have hSz := bl_sz (bl_trans hB (by go_grown)) hbn; replace hB := bl_trans (bl_trans hB (by go_grown)) hbn; replace P := P.bel (bl_trans (by go_grown) hbn); replace Pc := P.c1; replace Q := Q.bel (bl_trans (by go_grown) hbn); replace Qc := Q.c2; replace D := D.bel (bl_trans (by go_grown) hbn); replace Dc := D.c3; obtain ⟨⟨A1, c9, rfl⟩, _⟩ := id o1; have O1 := Lib.hid o1; clear o1; clear hbn) | (go_at_call 110; refine (IsPartial_i A c rs _ _ _ (sortD laid) _ hl rfl HC.out (hr'.out.below (bl_trans hB (by go_grown))) (O1.out.rd.below (by go_grown))).mono ?_; rintro e wn ⟨rfl, hbn⟩; have hSz := bl_sz (bl_trans hB (by go_grown)) hbn; replace hB := bl_trans (bl_trans hB (by go_grown)) hbn; replace P := P.bel (bl_trans (by go_grown) hbn); replace Pc := P.c1; replace Q := Q.bel (bl_trans (by go_grown) hbn); replace Qc := Q.c2; replace D := D.bel (bl_trans (by go_grown) hbn); replace Dc := D.c3; rw [C2.out]; clear hbn) | (go_at_call 77; refine (rset_any A c rs _ HREG.out (hr'.out.below (bl_trans hB (by go_grown)))).mono ?_; rintro e wn ⟨rfl, hbn⟩; have hSz := bl_sz (bl_trans hB (by go_grown)) hbn; replace hB := bl_trans (bl_trans hB (by go_grown)) hbn; replace P := P.bel (bl_trans (by go_grown) hbn); replace Pc := P.c1; replace Q := Q.bel (bl_trans (by go_grown) hbn); replace Qc := Q.c2; replace D := D.bel (bl_trans (by go_grown) hbn); replace Dc := D.c3; rw [← HSR.out]; clear hbn) | (go_at_call 113; refine (covered_N B N d laid _ HN.out hl2 (hs'.out.below (bl_trans hB (by go_grown)))).mono ?_; rintro e wn ⟨rfl, hbn⟩; have hSz := bl_sz (bl_trans hB (by go_grown)) hbn; replace hB := bl_trans (bl_trans hB (by go_grown)) hbn; replace P := P.bel (bl_trans (by go_grown) hbn); replace Pc := P.c1; replace Q := Q.bel (bl_trans (by go_grown) hbn); replace Qc := Q.c2; replace D := D.bel (bl_trans (by go_grown) hbn); replace Dc := D.c3; rw [← HCV.out]; clear hbn) | (go_at_call 112; refine (canLay_any (bdiff sr cv) x y u v z _ hbd HOK.out).mono ?_; rintro e wn ⟨rfl, hbn⟩; have hSz := bl_sz (bl_trans hB (by go_grown)) hbn; replace hB := bl_trans (bl_trans hB (by go_grown)) hbn; replace P := P.bel (bl_trans (by go_grown) hbn); replace Pc := P.c1; replace Q := Q.bel (bl_trans (by go_grown) hbn); replace Qc := Q.c2; replace D := D.bel (bl_trans (by go_grown) hbn); replace Dc := D.c3; skip; clear hbn))
      all_goals (go_wp2_with fail; go_ret; exact ⟨ret_bool (by rw [H.out]), hB⟩)
theorem bfs_mem' {s : Nat} {d : Cl} (f : Nat) : ∀ {k : Nat} {L : List Cl}, d ∈ bfs s f k L → d ∈ L ∨ (cellOk d.1 d.2 = true ∧ s.testBit (idxN d) = true) := by
  have hfold : ∀ (l L : List Cl), d ∈ l.foldl addC L → d ∈ L ∨ d ∈ l := by
    intro l
    induction l with
    | nil => intro L h; exact .inl h
    | cons e l ih =>
      intro L h
      rcases ih _ h with h | h
      · unfold addC at h
        split at h
        · exact .inl h
        · rcases List.mem_append.1 h with h | h
          · exact .inl h
          · simp at h; exact .inr (by simp [h])
      · exact .inr (List.mem_cons_of_mem _ h)
  induction f with
  | zero => intro k L h; exact .inl h
  | succ f ih =>
    intro k L h
    rw [bfs] at h
    split at h
    · exact .inl h
    · rcases ih h with h | h
      · unfold grow at h
        rcases hfold _ _ h with h | h
        · exact .inl h
        · have := mem_cellsBy.1 h
          refine .inr ⟨this.1, ?_⟩
          have h2 := this.2
          simp only [Bool.and_eq_true] at h2
          first | exact h2.1 | exact h2.2
      · exact .inr h
theorem canLayB_bits {rs : List Int} {laid : List Dm} {x y u v : Int} {z : Bool} (hreg : regOk rs = true) (hc : cellOk x y = true) (hdoor : (regSet rs).testBit (idxN (x, y)) = true) (hd : okD (u, v, z) = true) :
    canLayB (bdiff (regSet rs) (covers laid)) (x, y) (u, v, z) = ((regSet rs).testBit (idxN (u, v)) && ((regSet rs).testBit (idxN (sndX u z, sndY v z)) && ((reachedS rs (sortD laid) (x, y)).testBit (idxN (u, v)) && (reachedS rs (sortD laid) (x, y)).testBit (idxN (sndX u z, sndY v z))))) := by
  have hSlt := regSet_lt hreg
  have hClt := covers_lt laid
  obtain ⟨k1, k2⟩ := domOk_cells hd
  unfold canLayB reachedS
  rw [covers_sort, hd, bdiff_bit hSlt hClt, hdoor]
  cases hcv : (covers laid).testBit (idxN (x, y))
  · simp only [Bool.true_and, Bool.not_false, Bool.false_eq_true, if_false]
    obtain ⟨R, hR⟩ : ∃ R, R = reachL (bdiff (regSet rs) (covers laid)) (x, y) := ⟨_, rfl⟩
    have hsub : ∀ c : Cl, cellOk c.1 c.2 = true → (setL R).testBit (idxN c) = true → (regSet rs).testBit (idxN c) = true := by
      intro c hcc h
      have hw : WfL (bdiff (regSet rs) (covers laid)) R := hR ▸ reachL_wf _ hc
      have h2 := setL_has (d := c) hw.ok hcc
      unfold hasBit at h2
      rw [hcc, Bool.true_and] at h2
      have h3 : decide (c ∈ R) = true := by rw [← h2]; exact h
      have h4 := of_decide_eq_true h3
      rw [hR] at h4
      rcases bfs_mem' 65 h4 with h5 | ⟨_, h5⟩
      · simp at h5; rw [h5]; exact hdoor
      · rw [bdiff_bit hSlt hClt, Bool.and_eq_true] at h5; exact h5.1
    rw [← hR]
    have own_bit : ∀ i, (ownD (u, v, z)).testBit i = (decide (idxN (u, v) = i) || decide (idxN (sndX u z, sndY v z) = i)) := by
      intro i
      unfold ownD setD
      rw [Nat.testBit_or, nthBit_test, nthBit_test]; rfl
    rw [Bool.eq_iff_iff, beq_iff_eq]
    simp only [Bool.and_eq_true]
    constructor
    · intro h
      have h1 : (setL R).testBit (idxN (u, v)) = true := by
        have := congrArg (fun n => n.testBit (idxN (u, v))) h
        simp only [Nat.testBit_and, own_bit] at this
        simpa using this
      have h2 : (setL R).testBit (idxN (sndX u z, sndY v z)) = true := by
        have := congrArg (fun n => n.testBit (idxN (sndX u z, sndY v z))) h
        simp only [Nat.testBit_and, own_bit] at this
        simpa using this
      exact ⟨hsub _ k1 h1, hsub _ k2 h2, h1, h2⟩
    · rintro ⟨_, _, h1, h2⟩
      refine sub_of_bits fun i hi => ?_
      rw [own_bit] at hi
      simp only [Bool.or_eq_true, decide_eq_true_eq] at hi
      rcases hi with rfl | rfl
      · exact h1
      · exact h2
  · simp
theorem HasCell_sn (A : Option Addr) (c : Nat) (l : List Int) (x y : Int) (w : World) (hl : l.length ≤ 1048576) (hr : RdI w A l) (hreg : regOk l = true) (hc : cellOk x y = true) (b : Bool) (hb : (regSet l).testBit (idxN (x, y)) = b) :
    Calls Try.prog 64 #[.agg #[.slice A l.length c], .agg #[.int .i64 x, .int .i64 y]] w fun e w' => e = .returned (.bool b) ∧ Below w.heap.size w w' :=
  (HasCell_s A c l x y w hl hr).mono fun e w' h => ⟨h.1.trans (by rw [HasCell_bit hreg hc, hb]), h.2⟩
set_option maxRecDepth 100000 in
set_option maxHeartbeats 2000000 in
theorem CanLay_s (A : Option Addr) (c : Nat) (rs : List Int) (x y : Int) (B : Option Addr) (N d : Nat) (laid : List Dm) (u v : Int) (z : Bool) (w : World) (hl : rs.length ≤ 1048576) (hN : N = laid.length) (hl2 : N ≤ 1048576) (hr : RdI w A rs) (hs : RdD w B laid) :
    Calls Try.prog 50 #[.agg #[.slice A rs.length c], .agg #[.int .i64 x, .int .i64 y], .slice B N d, .agg #[.int .i64 u, .int .i64 v, .bool z]] w fun e w' => e = .returned (.bool (canLayR rs (x, y) laid (u, v, z))) ∧ Below w.heap.size w w' := by
  have hr' := Lib.hid hr
  have hs' := Lib.hid hs
  have HN := Lib.hid hN
  have hB := bl_alloc (bl_alloc (bl_alloc (Below.refl w.heap.size w) (.cells #[.slice A rs.length c] 39)) (.cells #[.int .i64 x, .int .i64 y] 70)) (.cells #[.int .i64 u, .int .i64 v, .bool z] 65)
  have P := ((Blk.new w 39 [.slice A rs.length c]).alloc (.cells #[.int .i64 x, .int .i64 y] 70)).alloc (.cells #[.int .i64 u, .int .i64 v, .bool z] 65)
  have Q := (Blk.new2 w (.cells #[.slice A rs.length c] 39) 70 [.int .i64 x, .int .i64 y]).alloc (.cells #[.int .i64 u, .int .i64 v, .bool z] 65)
  have D := Blk.new3 w (.cells #[.slice A rs.length c] 39) (.cells #[.int .i64 x, .int .i64 y] 70) 65 [.int .i64 u, .int .i64 v, .bool z]
  have Pc := P.c1
  have Qc := Q.c2
  have Dc := D.c3
  have hsl : (sortD laid).length ≤ 1048576 := by have := sortD_len laid; omega
  have HC := Lib.hid hsl
  clear hr hs hN hsl
  cases c1 : (regOk rs && cellOk x y && regHas rs x y)
  · have C1 := Lib.hid c1
    have H := Lib.hid (show canLayR rs (x, y) laid (u, v, z) = false by unfold canLayR; dsimp only; rw [c1]; rfl)
    clear c1
    go_enter Try.func50, Try.ntmps50
    go_wp2_with (first | (go_at_call 106; refine (SortDominoes_s B N d laid _ HN.out hl2 (hs'.out.below (bl_trans hB (by go_grown)))).mono ?_; rintro e wn ⟨v1, rfl, o1, hbn⟩; have hSz := bl_sz (bl_trans hB (by go_grown)) hbn; replace hB := bl_trans (bl_trans hB (by go_grown)) hbn; replace P := P.bel (bl_trans (by go_grown) hbn); replace Pc := P.c1; replace Q := Q.bel (bl_trans (by go_grown) hbn); replace Qc := Q.c2; replace D := D.bel (bl_trans (by go_grown) hbn); replace Dc := D.c3; obtain ⟨⟨A1, c9, rfl⟩, _⟩ := id o1; have O1 := Lib.hid o1; clear o1; clear hbn) | (go_at_call 64; refine (HasCell_s A c rs x y _ hl (hr'.out.below (bl_trans hB (by go_grown)))).mono ?_; rintro e wn ⟨rfl, hbn⟩; have hSz := bl_sz (bl_trans hB (by go_grown)) hbn; replace hB := bl_trans (bl_trans hB (by go_grown)) hbn; replace P := P.bel (bl_trans (by go_grown) hbn); replace Pc := P.c1; replace Q := Q.bel (bl_trans (by go_grown) hbn); replace Qc := Q.c2; replace D := D.bel (bl_trans (by go_grown) hbn); replace Dc := D.c3; rw [C1.out]; clear hbn))
    go_ret
    exact ⟨ret_bool (by rw [H.out]), hB⟩
  · obtain ⟨⟨hreg, hok⟩, _⟩ : (regOk rs = true ∧ cellOk x y = true) ∧ regHas rs x y = true := by simpa using c1
    cases c2 : isPartial rs (sortD laid)
    · have C1 := Lib.hid c1
      have C2 := Lib.hid c2
      have H := Lib.hid (show canLayR rs (x, y) laid (u, v, z) = false by unfold canLayR; dsimp only; rw [c1, c2]; rfl)
      clear c1 c2
      go_enter Try.func50, Try.ntmps50
      go_wp2_with (first | (go_at_call 106; refine (SortDominoes_s B N d laid _ HN.out hl2 (hs'.out.below (bl_trans hB (by go_grown)))).mono ?_; rintro e wn ⟨v1, rfl, o1, hbn⟩; have hSz := bl_sz (bl_trans hB (by go_grown)) hbn; replace hB := bl_trans (bl_trans hB (by go_grown)) hbn; replace P := P.bel (bl_trans (by go_grown) hbn); replace Pc := P.c1; replace Q := Q.bel (bl_trans (by go_grown) hbn); replace Qc := Q.c2; replace D := D.bel (bl_trans (by go_grown) hbn); replace Dc := D.c3; obtain ⟨⟨A1, c9, rfl⟩, _⟩ := id o1; have O1 := Lib.hid o1; clear o1; clear hbn) | (go_at_call 64; refine (HasCell_s A c rs x y _ hl (hr'.out.below (bl_trans hB (by go_grown)))).mono ?_; rintro e wn ⟨rfl, hbn⟩; have hSz := bl_sz (bl_trans hB (by go_grown)) hbn; replace hB := bl_trans (bl_trans hB (by go_grown)) hbn; replace P := P.bel (bl_trans (by go_grown) hbn); replace Pc := P.c1; replace Q := Q.bel (bl_trans (by go_grown) hbn); replace Qc := Q.c2; replace D := D.bel (bl_trans (by go_grown) hbn); replace Dc := D.c3; rw [C1.out]; replace O1 := Lib.hid (O1.out.bel hbn); clear hbn) | (go_at_call 107; refine (IsPartial_s A c rs _ _ _ (sortD laid) _ hl rfl HC.out (hr'.out.below (bl_trans hB (by go_grown))) (O1.out.rd.below (by go_grown))).mono ?_; rintro e wn ⟨rfl, hbn⟩; have hSz := bl_sz (bl_trans hB (by go_grown)) hbn; replace hB := bl_trans (bl_trans hB (by go_grown)) hbn; replace P := P.bel (bl_trans (by go_grown) hbn); replace Pc := P.c1; replace Q := Q.bel (bl_trans (by go_grown) hbn); replace Qc := Q.c2; replace D := D.bel (bl_trans (by go_grown) hbn); replace Dc := D.c3; rw [C2.out]; replace O1 := Lib.hid (O1.out.bel hbn); clear hbn))
      go_ret
      exact ⟨ret_bool (by rw [H.out]), hB⟩
    · cases c3 : domOk u v z
      · have C1 := Lib.hid c1
        have C2 := Lib.hid c2
        have C3 := Lib.hid c3
        have H := Lib.hid (show canLayR rs (x, y) laid (u, v, z) = false by unfold canLayR canLayB okD; dsimp only; rw [c3]; simp)
        clear c1 c2 c3
        go_enter Try.func50, Try.ntmps50
        go_wp2_with (first | (go_at_call 106; refine (SortDominoes_s B N d laid _ HN.out hl2 (hs'.out.below (bl_trans hB (by go_grown)))).mono ?_; rintro e wn ⟨v1, rfl, o1, hbn⟩; have hSz := bl_sz (bl_trans hB (by go_grown)) hbn; replace hB := bl_trans (bl_trans hB (by go_grown)) hbn; replace P := P.bel (bl_trans (by go_grown) hbn); replace Pc := P.c1; replace Q := Q.bel (bl_trans (by go_grown) hbn); replace Qc := Q.c2; replace D := D.bel (bl_trans (by go_grown) hbn); replace Dc := D.c3; obtain ⟨⟨A1, c9, rfl⟩, _⟩ := id o1; have O1 := Lib.hid o1; clear o1; clear hbn) | (go_at_call 64; refine (HasCell_s A c rs x y _ hl (hr'.out.below (bl_trans hB (by go_grown)))).mono ?_; rintro e wn ⟨rfl, hbn⟩; have hSz := bl_sz (bl_trans hB (by go_grown)) hbn; replace hB := bl_trans (bl_trans hB (by go_grown)) hbn; replace P := P.bel (bl_trans (by go_grown) hbn); replace Pc := P.c1; replace Q := Q.bel (bl_trans (by go_grown) hbn); replace Qc := Q.c2; replace D := D.bel (bl_trans (by go_grown) hbn); replace Dc := D.c3; rw [C1.out]; replace O1 := Lib.hid (O1.out.bel hbn); clear hbn) | (go_at_call 107; refine (IsPartial_s A c rs _ _ _ (sortD laid) _ hl rfl HC.out (hr'.out.below (bl_trans hB (by go_grown))) (O1.out.rd.below (by go_grown))).mono ?_; rintro e wn ⟨rfl, hbn⟩; have hSz := bl_sz (bl_trans hB (by go_grown)) hbn; replace hB := bl_trans (bl_trans hB (by go_grown)) hbn; replace P := P.bel (bl_trans (by go_grown) hbn); replace Pc := P.c1; replace Q := Q.bel (bl_trans (by go_grown) hbn); replace Qc := Q.c2; replace D := D.bel (bl_trans (by go_grown) hbn); replace Dc := D.c3; rw [C2.out]; replace O1 := Lib.hid (O1.out.bel hbn); clear hbn) | (go_at_call 108; refine (DominoOk_s u v z _).mono ?_; rintro e wn ⟨rfl, hbn⟩; have hSz := bl_sz (bl_trans hB (by go_grown)) hbn; replace hB := bl_trans (bl_trans hB (by go_grown)) hbn; replace P := P.bel (bl_trans (by go_grown) hbn); replace Pc := P.c1; replace Q := Q.bel (bl_trans (by go_grown) hbn); replace Qc := Q.c2; replace D := D.bel (bl_trans (by go_grown) hbn); replace Dc := D.c3; rw [C3.out]; replace O1 := Lib.hid (O1.out.bel hbn); clear hbn))
        go_ret
        exact ⟨ret_bool (by rw [H.out]), hB⟩
      · obtain ⟨k1, k2⟩ := domOk_cells c3
        have hdoor : (regSet rs).testBit (idxN (x, y)) = true := by rw [← HasCell_bit hreg hok]; exact c1
        have hbits := canLayB_bits (laid := laid) hreg hok hdoor c3
        obtain ⟨R, hR⟩ : ∃ R, R = reachedS rs (sortD laid) (x, y) := ⟨_, rfl⟩
        obtain ⟨n1, hn1⟩ : ∃ n1, n1 = idxN (u, v) := ⟨_, rfl⟩
        obtain ⟨n2, hn2⟩ : ∃ n2, n2 = idxN (sndX u z, sndY v z) := ⟨_, rfl⟩
        have hb1 : n1 < 64 := by rw [hn1]; exact idxN_lt k1
        have hb2 : n2 < 64 := by rw [hn2]; exact idxN_lt k2
        have I1 := Lib.hid (show cellIdx u v = (n1 : Int) by rw [hn1]; exact cellIdx_nat k1)
        have I2 := Lib.hid (show cellIdx (sndX u z) (sndY v z) = (n2 : Int) by rw [hn2]; exact cellIdx_nat k2)
        rw [← hR, ← hn1, ← hn2] at hbits
        have hres : canLayR rs (x, y) laid (u, v, z) = ((regSet rs).testBit n1 && ((regSet rs).testBit n2 && (R.testBit n1 && R.testBit n2))) := by unfold canLayR; dsimp only; rw [c1, c2, hbits]; rfl
        have K1 := Lib.hid k1
        have K2 := Lib.hid k2
        have HREG := Lib.hid hreg
        have HOK := Lib.hid hok
        have C1 := Lib.hid c1
        have C2 := Lib.hid c2
        have C3 := Lib.hid c3
        have HR := Lib.hid hR
        cases c4 : (regSet rs).testBit n1
        · have H := Lib.hid (show canLayR rs (x, y) laid (u, v, z) = false by rw [hres, c4]; rfl)
          have C4 := Lib.hid (show (regSet rs).testBit (idxN (u, v)) = false by rw [← hn1]; exact c4)
          clear c1 c2 c3 c4 hbits hres hR hn1 hn2 k1 k2 hreg hok hdoor
          go_enter Try.func50, Try.ntmps50
          go_wp2_with (first | (go_at_call 106; refine (SortDominoes_s B N d laid _ HN.out hl2 (hs'.out.below (bl_trans hB (by go_grown)))).mono ?_; rintro e wn ⟨v1, rfl, o1, hbn⟩; have hSz := bl_sz (bl_trans hB (by go_grown)) hbn; replace hB := bl_trans (bl_trans hB (by go_grown)) hbn; replace P := P.bel (bl_trans (by go_grown) hbn); replace Pc := P.c1; replace Q := Q.bel (bl_trans (by go_grown) hbn); replace Qc := Q.c2; replace D := D.bel (bl_trans (by go_grown) hbn); replace Dc := D.c3; obtain ⟨⟨A1, c9, rfl⟩, _⟩ := id o1; have O1 := Lib.hid o1; clear o1; clear hbn) | (go_at_call 64; refine (HasCell_s A c rs x y _ hl (hr'.out.below (bl_trans hB (by go_grown)))).mono ?_; rintro e wn ⟨rfl, hbn⟩; have hSz := bl_sz (bl_trans hB (by go_grown)) hbn; replace hB := bl_trans (bl_trans hB (by go_grown)) hbn; replace P := P.bel (bl_trans (by go_grown) hbn); replace Pc := P.c1; replace Q := Q.bel (bl_trans (by go_grown) hbn); replace Qc := Q.c2; replace D := D.bel (bl_trans (by go_grown) hbn); replace Dc := D.c3; rw [C1.out]; replace O1 := Lib.hid (O1.out.bel hbn); clear hbn) | (go_at_call 107; refine (IsPartial_s A c rs _ _ _ (sortD laid) _ hl rfl HC.out (hr'.out.below (bl_trans hB (by go_grown))) (O1.out.rd.below (by go_grown))).mono ?_; rintro e wn ⟨rfl, hbn⟩; have hSz := bl_sz (bl_trans hB (by go_grown)) hbn; replace hB := bl_trans (bl_trans hB (by go_grown)) hbn; replace P := P.bel (bl_trans (by go_grown) hbn); replace Pc := P.c1; replace Q := Q.bel (bl_trans (by go_grown) hbn); replace Qc := Q.c2; replace D := D.bel (bl_trans (by go_grown) hbn); replace Dc := D.c3; rw [C2.out]; replace O1 := Lib.hid (O1.out.bel hbn); clear hbn) | (go_at_call 108; refine (DominoOk_s u v z _).mono ?_; rintro e wn ⟨rfl, hbn⟩; have hSz := bl_sz (bl_trans hB (by go_grown)) hbn; replace hB := bl_trans (bl_trans hB (by go_grown)) hbn; replace P := P.bel (bl_trans (by go_grown) hbn); replace Pc := P.c1; replace Q := Q.bel (bl_trans (by go_grown) hbn); replace Qc := Q.c2; replace D := D.bel (bl_trans (by go_grown) hbn); replace Dc := D.c3; rw [C3.out]; replace O1 := Lib.hid (O1.out.bel hbn); clear hbn))
          (refine (CellsUnder_yes u v z _ C3.out).mono ?_; rintro e wn ⟨rfl, hbn⟩; have hSz := bl_sz (bl_trans hB (by go_grown)) hbn; replace hB := bl_trans (bl_trans hB (by go_grown)) hbn; replace P := P.bel (bl_trans (by go_grown) hbn); replace Pc := P.c1; replace Q := Q.bel (bl_trans (by go_grown) hbn); replace Qc := Q.c2; replace D := D.bel (bl_trans (by go_grown) hbn); replace Dc := D.c3; replace O1 := Lib.hid (((O1.out.bel hbn).alloc' (.cells #[.int .i64 u, .int .i64 v] 70)).alloc' (.cells #[.int .i64 (sndX u z), .int .i64 (sndY v z)] 70)); (have E := (Blk.new wn 70 [.int .i64 u, .int .i64 v]).alloc (.cells #[.int .i64 (sndX u z), .int .i64 (sndY v z)] 70); have Ec := E.c2; have F := Blk.new2 wn (.cells #[.int .i64 u, .int .i64 v] 70) 70 [.int .i64 (sndX u z), .int .i64 (sndY v z)]; have Fc := F.c2); replace P := (P.alloc (.cells #[.int .i64 u, .int .i64 v] 70)).alloc (.cells #[.int .i64 (sndX u z), .int .i64 (sndY v z)] 70); replace Pc := P.c1; replace Q := (Q.alloc (.cells #[.int .i64 u, .int .i64 v] 70)).alloc (.cells #[.int .i64 (sndX u z), .int .i64 (sndY v z)] 70); replace Qc := Q.c2; replace D := (D.alloc (.cells #[.int .i64 u, .int .i64 v] 70)).alloc (.cells #[.int .i64 (sndX u z), .int .i64 (sndY v z)] 70); replace Dc := D.c3; replace hB := bl_alloc (bl_alloc hB (.cells #[.int .i64 u, .int .i64 v] 70)) (.cells #[.int .i64 (sndX u z), .int .i64 (sndY v z)] 70); clear hbn)
          go_wp2_with (first | (go_at_call 64; refine (HasCell_sn A c rs u v _ hl (hr'.out.below (bl_trans hB (by go_grown))) HREG.out K1.out _ C4.out).mono ?_; rintro e wn ⟨rfl, hbn⟩; have hSz := bl_sz (bl_trans hB (by go_grown)) hbn; replace hB := bl_trans (bl_trans hB (by go_grown)) hbn; replace P := P.bel (bl_trans (by go_grown) hbn); replace Pc := P.c1; replace Q := Q.bel (bl_trans (by go_grown) hbn); replace Qc := Q.c2; replace D := D.bel (bl_trans (by go_grown) hbn); replace Dc := D.c3; replace E := E.bel (bl_trans (by go_grown) hbn); replace Ec := E.c2; replace F := F.bel (bl_trans (by go_grown) hbn); replace Fc := F.c2; skip; clear hbn))
          go_ret
          exact ⟨ret_bool (by rw [H.out]), hB⟩
        · cases c5 : (regSet rs).testBit n2
          · have H := Lib.hid (show canLayR rs (x, y) laid (u, v, z) = false by rw [hres, c4, c5]; rfl)
            have C4 := Lib.hid (show (regSet rs).testBit (idxN (u, v)) = true by rw [← hn1]; exact c4)
            have C5 := Lib.hid (show (regSet rs).testBit (idxN (sndX u z, sndY v z)) = false by rw [← hn2]; exact c5)
            clear c1 c2 c3 c4 c5 hbits hres hR hn1 hn2 k1 k2 hreg hok hdoor
            go_enter Try.func50, Try.ntmps50
            go_wp2_with (first | (go_at_call 106; refine (SortDominoes_s B N d laid _ HN.out hl2 (hs'.out.below (bl_trans hB (by go_grown)))).mono ?_; rintro e wn ⟨v1, rfl, o1, hbn⟩; have hSz := bl_sz (bl_trans hB (by go_grown)) hbn; replace hB := bl_trans (bl_trans hB (by go_grown)) hbn; replace P := P.bel (bl_trans (by go_grown) hbn); replace Pc := P.c1; replace Q := Q.bel (bl_trans (by go_grown) hbn); replace Qc := Q.c2; replace D := D.bel (bl_trans (by go_grown) hbn); replace Dc := D.c3; obtain ⟨⟨A1, c9, rfl⟩, _⟩ := id o1; have O1 := Lib.hid o1; clear o1; clear hbn) | (go_at_call 64; refine (HasCell_s A c rs x y _ hl (hr'.out.below (bl_trans hB (by go_grown)))).mono ?_; rintro e wn ⟨rfl, hbn⟩; have hSz := bl_sz (bl_trans hB (by go_grown)) hbn; replace hB := bl_trans (bl_trans hB (by go_grown)) hbn; replace P := P.bel (bl_trans (by go_grown) hbn); replace Pc := P.c1; replace Q := Q.bel (bl_trans (by go_grown) hbn); replace Qc := Q.c2; replace D := D.bel (bl_trans (by go_grown) hbn); replace Dc := D.c3; rw [C1.out]; replace O1 := Lib.hid (O1.out.bel hbn); clear hbn) | (go_at_call 107; refine (IsPartial_s A c rs _ _ _ (sortD laid) _ hl rfl HC.out (hr'.out.below (bl_trans hB (by go_grown))) (O1.out.rd.below (by go_grown))).mono ?_; rintro e wn ⟨rfl, hbn⟩; have hSz := bl_sz (bl_trans hB (by go_grown)) hbn; replace hB := bl_trans (bl_trans hB (by go_grown)) hbn; replace P := P.bel (bl_trans (by go_grown) hbn); replace Pc := P.c1; replace Q := Q.bel (bl_trans (by go_grown) hbn); replace Qc := Q.c2; replace D := D.bel (bl_trans (by go_grown) hbn); replace Dc := D.c3; rw [C2.out]; replace O1 := Lib.hid (O1.out.bel hbn); clear hbn) | (go_at_call 108; refine (DominoOk_s u v z _).mono ?_; rintro e wn ⟨rfl, hbn⟩; have hSz := bl_sz (bl_trans hB (by go_grown)) hbn; replace hB := bl_trans (bl_trans hB (by go_grown)) hbn; replace P := P.bel (bl_trans (by go_grown) hbn); replace Pc := P.c1; replace Q := Q.bel (bl_trans (by go_grown) hbn); replace Qc := Q.c2; replace D := D.bel (bl_trans (by go_grown) hbn); replace Dc := D.c3; rw [C3.out]; replace O1 := Lib.hid (O1.out.bel hbn); clear hbn))
            (refine (CellsUnder_yes u v z _ C3.out).mono ?_; rintro e wn ⟨rfl, hbn⟩; have hSz := bl_sz (bl_trans hB (by go_grown)) hbn; replace hB := bl_trans (bl_trans hB (by go_grown)) hbn; replace P := P.bel (bl_trans (by go_grown) hbn); replace Pc := P.c1; replace Q := Q.bel (bl_trans (by go_grown) hbn); replace Qc := Q.c2; replace D := D.bel (bl_trans (by go_grown) hbn); replace Dc := D.c3; replace O1 := Lib.hid (((O1.out.bel hbn).alloc' (.cells #[.int .i64 u, .int .i64 v] 70)).alloc' (.cells #[.int .i64 (sndX u z), .int .i64 (sndY v z)] 70)); (have E := (Blk.new wn 70 [.int .i64 u, .int .i64 v]).alloc (.cells #[.int .i64 (sndX u z), .int .i64 (sndY v z)] 70); have Ec := E.c2; have F := Blk.new2 wn (.cells #[.int .i64 u, .int .i64 v] 70) 70 [.int .i64 (sndX u z), .int .i64 (sndY v z)]; have Fc := F.c2); replace P := (P.alloc (.cells #[.int .i64 u, .int .i64 v] 70)).alloc (.cells #[.int .i64 (sndX u z), .int .i64 (sndY v z)] 70); replace Pc := P.c1; replace Q := (Q.alloc (.cells #[.int .i64 u, .int .i64 v] 70)).alloc (.cells #[.int .i64 (sndX u z), .int .i64 (sndY v z)] 70); replace Qc := Q.c2; replace D := (D.alloc (.cells #[.int .i64 u, .int .i64 v] 70)).alloc (.cells #[.int .i64 (sndX u z), .int .i64 (sndY v z)] 70); replace Dc := D.c3; replace hB := bl_alloc (bl_alloc hB (.cells #[.int .i64 u, .int .i64 v] 70)) (.cells #[.int .i64 (sndX u z), .int .i64 (sndY v z)] 70); clear hbn)
            go_wp2_with (first | (go_at_call 64; refine (HasCell_sn A c rs _ _ _ hl (hr'.out.below (bl_trans hB (by go_grown))) HREG.out (by first | exact K1.out | exact K2.out) _ (by first | exact C4.out | exact C5.out)).mono ?_; rintro e wn ⟨rfl, hbn⟩; have hSz := bl_sz (bl_trans hB (by go_grown)) hbn; replace hB := bl_trans (bl_trans hB (by go_grown)) hbn; replace P := P.bel (bl_trans (by go_grown) hbn); replace Pc := P.c1; replace Q := Q.bel (bl_trans (by go_grown) hbn); replace Qc := Q.c2; replace D := D.bel (bl_trans (by go_grown) hbn); replace Dc := D.c3; replace E := E.bel (bl_trans (by go_grown) hbn); replace Ec := E.c2; replace F := F.bel (bl_trans (by go_grown) hbn); replace Fc := F.c2; skip; clear hbn))
            go_ret
            exact ⟨ret_bool (by rw [H.out]), hB⟩
          · have hres2 : canLayR rs (x, y) laid (u, v, z) = (R.testBit n1 && R.testBit n2) := by rw [hres, c4, c5]; rfl
            have C4 := Lib.hid (show (regSet rs).testBit (idxN (u, v)) = true by rw [← hn1]; exact c4)
            have C5 := Lib.hid (show (regSet rs).testBit (idxN (sndX u z, sndY v z)) = true by rw [← hn2]; exact c5)
            clear c1 c2 c3 c4 c5 hbits hres hR hn1 hn2 k1 k2 hreg hok hdoor
            cases c6 : R.testBit n1
            · have H := Lib.hid (show canLayR rs (x, y) laid (u, v, z) = false by rw [hres2, c6]; rfl)
              have C6 := Lib.hid c6
              clear c6 hres2
              go_enter Try.func50, Try.ntmps50
              go_wp2_with (first | (go_at_call 106; refine (SortDominoes_s B N d laid _ HN.out hl2 (hs'.out.below (bl_trans hB (by go_grown)))).mono ?_; rintro e wn ⟨v1, rfl, o1, hbn⟩; have hSz := bl_sz (bl_trans hB (by go_grown)) hbn; replace hB := bl_trans (bl_trans hB (by go_grown)) hbn; replace P := P.bel (bl_trans (by go_grown) hbn); replace Pc := P.c1; replace Q := Q.bel (bl_trans (by go_grown) hbn); replace Qc := Q.c2; replace D := D.bel (bl_trans (by go_grown) hbn); replace Dc := D.c3; obtain ⟨⟨A1, c9, rfl⟩, _⟩ := id o1; have O1 := Lib.hid o1; clear o1; clear hbn) | (go_at_call 64; refine (HasCell_s A c rs x y _ hl (hr'.out.below (bl_trans hB (by go_grown)))).mono ?_; rintro e wn ⟨rfl, hbn⟩; have hSz := bl_sz (bl_trans hB (by go_grown)) hbn; replace hB := bl_trans (bl_trans hB (by go_grown)) hbn; replace P := P.bel (bl_trans (by go_grown) hbn); replace Pc := P.c1; replace Q := Q.bel (bl_trans (by go_grown) hbn); replace Qc := Q.c2; replace D := D.bel (bl_trans (by go_grown) hbn); replace Dc := D.c3; rw [C1.out]; replace O1 := Lib.hid (O1.out.bel hbn); clear hbn) | (go_at_call 107; refine (IsPartial_s A c rs _ _ _ (sortD laid) _ hl rfl HC.out (hr'.out.below (bl_trans hB (by go_grown))) (O1.out.rd.below (by go_grown))).mono ?_; rintro e wn ⟨rfl, hbn⟩; have hSz := bl_sz (bl_trans hB (by go_grown)) hbn; replace hB := bl_trans (bl_trans hB (by go_grown)) hbn; replace P := P.bel (bl_trans (by go_grown) hbn); replace Pc := P.c1; replace Q := Q.bel (bl_trans (by go_grown) hbn); replace Qc := Q.c2; replace D := D.bel (bl_trans (by go_grown) hbn); replace Dc := D.c3; rw [C2.out]; replace O1 := Lib.hid (O1.out.bel hbn); clear hbn) | (go_at_call 108; refine (DominoOk_s u v z _).mono ?_; rintro e wn ⟨rfl, hbn⟩; have hSz := bl_sz (bl_trans hB (by go_grown)) hbn; replace hB := bl_trans (bl_trans hB (by go_grown)) hbn; replace P := P.bel (bl_trans (by go_grown) hbn); replace Pc := P.c1; replace Q := Q.bel (bl_trans (by go_grown) hbn); replace Qc := Q.c2; replace D := D.bel (bl_trans (by go_grown) hbn); replace Dc := D.c3; rw [C3.out]; replace O1 := Lib.hid (O1.out.bel hbn); clear hbn))
              (refine (CellsUnder_yes u v z _ C3.out).mono ?_; rintro e wn ⟨rfl, hbn⟩; have hSz := bl_sz (bl_trans hB (by go_grown)) hbn; replace hB := bl_trans (bl_trans hB (by go_grown)) hbn; replace P := P.bel (bl_trans (by go_grown) hbn); replace Pc := P.c1; replace Q := Q.bel (bl_trans (by go_grown) hbn); replace Qc := Q.c2; replace D := D.bel (bl_trans (by go_grown) hbn); replace Dc := D.c3; replace O1 := Lib.hid (((O1.out.bel hbn).alloc' (.cells #[.int .i64 u, .int .i64 v] 70)).alloc' (.cells #[.int .i64 (sndX u z), .int .i64 (sndY v z)] 70)); (have E := (Blk.new wn 70 [.int .i64 u, .int .i64 v]).alloc (.cells #[.int .i64 (sndX u z), .int .i64 (sndY v z)] 70); have Ec := E.c2; have F := Blk.new2 wn (.cells #[.int .i64 u, .int .i64 v] 70) 70 [.int .i64 (sndX u z), .int .i64 (sndY v z)]; have Fc := F.c2); replace P := (P.alloc (.cells #[.int .i64 u, .int .i64 v] 70)).alloc (.cells #[.int .i64 (sndX u z), .int .i64 (sndY v z)] 70); replace Pc := P.c1; replace Q := (Q.alloc (.cells #[.int .i64 u, .int .i64 v] 70)).alloc (.cells #[.int .i64 (sndX u z), .int .i64 (sndY v z)] 70); replace Qc := Q.c2; replace D := (D.alloc (.cells #[.int .i64 u, .int .i64 v] 70)).alloc (.cells #[.int .i64 (sndX u z), .int .i64 (sndY v z)] 70); replace Dc := D.c3; replace hB := bl_alloc (bl_alloc hB (.cells #[.int .i64 u, .int .i64 v] 70)) (.cells #[.int .i64 (sndX u z), .int .i64 (sndY v z)] 70); clear hbn)
              go_wp2_with (first | (go_at_call 64; refine (HasCell_sn A c rs _ _ _ hl (hr'.out.below (bl_trans hB (by go_grown))) HREG.out (by first | exact K1.out | exact K2.out) _ (by first | exact C4.out | exact C5.out)).mono ?_; rintro e wn ⟨rfl, hbn⟩; have hSz := bl_sz (bl_trans hB (by go_grown)) hbn; replace hB := bl_trans (bl_trans hB (by go_grown)) hbn; replace P := P.bel (bl_trans (by go_grown) hbn); replace Pc := P.c1; replace Q := Q.bel (bl_trans (by go_grown) hbn); replace Qc := Q.c2; replace D := D.bel (bl_trans (by go_grown) hbn); replace Dc := D.c3; replace E := E.bel (bl_trans (by go_grown) hbn); replace Ec := E.c2; replace F := F.bel (bl_trans (by go_grown) hbn); replace Fc := F.c2; replace O1 := Lib.hid (O1.out.bel hbn); clear hbn))
              (refine (l32Reached_any A c rs x y _ _ _ (sortD laid) _ hl rfl HC.out (hr'.out.below (bl_trans hB (by go_grown))) (O1.out.rd.below (by go_grown)) HREG.out HOK.out).mono ?_; rintro e wn ⟨g, rfl, ⟨hg, M⟩, hbn⟩; have hSz := bl_sz (bl_trans hB (by go_grown)) hbn; replace hB := bl_trans (bl_trans hB (by go_grown)) hbn; replace P := P.bel (bl_trans (by go_grown) hbn); replace Pc := P.c1; replace Q := Q.bel (bl_trans (by go_grown) hbn); replace Qc := Q.c2; replace D := D.bel (bl_trans (by go_grown) hbn); replace Dc := D.c3; replace E := E.bel (bl_trans (by go_grown) hbn); replace Ec := E.c2; replace F := F.bel (bl_trans (by go_grown) hbn); replace Fc := F.c2; rw [← HR.out] at M; have m1 := M.getB hb1; rw [C6.out] at m1; have m2 := M.getB hb2; clear hbn)
              go_wp2_with (first | (go_at_call 72; refine (CellIndex_s u v _).mono ?_; rintro e wn ⟨rfl, hbn⟩; have hSz := bl_sz (bl_trans hB (by go_grown)) hbn; replace hB := bl_trans (bl_trans hB (by go_grown)) hbn; replace P := P.bel (bl_trans (by go_grown) hbn); replace Pc := P.c1; replace Q := Q.bel (bl_trans (by go_grown) hbn); replace Qc := Q.c2; replace D := D.bel (bl_trans (by go_grown) hbn); replace Dc := D.c3; replace E := E.bel (bl_trans (by go_grown) hbn); replace Ec := E.c2; replace F := F.bel (bl_trans (by go_grown) hbn); replace Fc := F.c2; rw [I1.out]; replace M := M.bel hbn; have m1 := M.getB hb1; rw [C6.out] at m1; clear hbn))
              go_ret
              exact ⟨ret_bool (by rw [H.out]), hB⟩
            · have H := Lib.hid (show canLayR rs (x, y) laid (u, v, z) = R.testBit n2 by rw [hres2, c6]; rfl)
              have C6 := Lib.hid c6
              clear c6 hres2
              go_enter Try.func50, Try.ntmps50
              go_wp2_with (first | (go_at_call 106; refine (SortDominoes_s B N d laid _ HN.out hl2 (hs'.out.below (bl_trans hB (by go_grown)))).mono ?_; rintro e wn ⟨v1, rfl, o1, hbn⟩; have hSz := bl_sz (bl_trans hB (by go_grown)) hbn; replace hB := bl_trans (bl_trans hB (by go_grown)) hbn; replace P := P.bel (bl_trans (by go_grown) hbn); replace Pc := P.c1; replace Q := Q.bel (bl_trans (by go_grown) hbn); replace Qc := Q.c2; replace D := D.bel (bl_trans (by go_grown) hbn); replace Dc := D.c3; obtain ⟨⟨A1, c9, rfl⟩, _⟩ := id o1; have O1 := Lib.hid o1; clear o1; clear hbn) | (go_at_call 64; refine (HasCell_s A c rs x y _ hl (hr'.out.below (bl_trans hB (by go_grown)))).mono ?_; rintro e wn ⟨rfl, hbn⟩; have hSz := bl_sz (bl_trans hB (by go_grown)) hbn; replace hB := bl_trans (bl_trans hB (by go_grown)) hbn; replace P := P.bel (bl_trans (by go_grown) hbn); replace Pc := P.c1; replace Q := Q.bel (bl_trans (by go_grown) hbn); replace Qc := Q.c2; replace D := D.bel (bl_trans (by go_grown) hbn); replace Dc := D.c3; rw [C1.out]; replace O1 := Lib.hid (O1.out.bel hbn); clear hbn) | (go_at_call 107; refine (IsPartial_s A c rs _ _ _ (sortD laid) _ hl rfl HC.out (hr'.out.below (bl_trans hB (by go_grown))) (O1.out.rd.below (by go_grown))).mono ?_; rintro e wn ⟨rfl, hbn⟩; have hSz := bl_sz (bl_trans hB (by go_grown)) hbn; replace hB := bl_trans (bl_trans hB (by go_grown)) hbn; replace P := P.bel (bl_trans (by go_grown) hbn); replace Pc := P.c1; replace Q := Q.bel (bl_trans (by go_grown) hbn); replace Qc := Q.c2; replace D := D.bel (bl_trans (by go_grown) hbn); replace Dc := D.c3; rw [C2.out]; replace O1 := Lib.hid (O1.out.bel hbn); clear hbn) | (go_at_call 108; refine (DominoOk_s u v z _).mono ?_; rintro e wn ⟨rfl, hbn⟩; have hSz := bl_sz (bl_trans hB (by go_grown)) hbn; replace hB := bl_trans (bl_trans hB (by go_grown)) hbn; replace P := P.bel (bl_trans (by go_grown) hbn); replace Pc := P.c1; replace Q := Q.bel (bl_trans (by go_grown) hbn); replace Qc := Q.c2; replace D := D.bel (bl_trans (by go_grown) hbn); replace Dc := D.c3; rw [C3.out]; replace O1 := Lib.hid (O1.out.bel hbn); clear hbn))
              (refine (CellsUnder_yes u v z _ C3.out).mono ?_; rintro e wn ⟨rfl, hbn⟩; have hSz := bl_sz (bl_trans hB (by go_grown)) hbn; replace hB := bl_trans (bl_trans hB (by go_grown)) hbn; replace P := P.bel (bl_trans (by go_grown) hbn); replace Pc := P.c1; replace Q := Q.bel (bl_trans (by go_grown) hbn); replace Qc := Q.c2; replace D := D.bel (bl_trans (by go_grown) hbn); replace Dc := D.c3; replace O1 := Lib.hid (((O1.out.bel hbn).alloc' (.cells #[.int .i64 u, .int .i64 v] 70)).alloc' (.cells #[.int .i64 (sndX u z), .int .i64 (sndY v z)] 70)); (have E := (Blk.new wn 70 [.int .i64 u, .int .i64 v]).alloc (.cells #[.int .i64 (sndX u z), .int .i64 (sndY v z)] 70); have Ec := E.c2; have F := Blk.new2 wn (.cells #[.int .i64 u, .int .i64 v] 70) 70 [.int .i64 (sndX u z), .int .i64 (sndY v z)]; have Fc := F.c2); replace P := (P.alloc (.cells #[.int .i64 u, .int .i64 v] 70)).alloc (.cells #[.int .i64 (sndX u z), .int .i64 (sndY v z)] 70); replace Pc := P.c1; replace Q := (Q.alloc (.cells #[.int .i64 u, .int .i64 v] 70)).alloc (.cells #[.int .i64 (sndX u z), .int .i64 (sndY v z)] 70); replace Qc := Q.c2; replace D := (D.alloc (.cells #[.int .i64 u, .int .i64 v] 70)).alloc (.cells #[.int .i64 (sndX u z), .int .i64 (sndY v z)] 70); replace Dc := D.c3; replace hB := bl_alloc (bl_alloc hB (.cells #[.int .i64 u, .int .i64 v] 70)) (.cells #[.int .i64 (sndX u z), .int .i64 (sndY v z)] 70); clear hbn)
              go_wp2_with (first | (go_at_call 64; refine (HasCell_sn A c rs _ _ _ hl (hr'.out.below (bl_trans hB (by go_grown))) HREG.out (by first | exact K1.out | exact K2.out) _ (by first | exact C4.out | exact C5.out)).mono ?_; rintro e wn ⟨rfl, hbn⟩; have hSz := bl_sz (bl_trans hB (by go_grown)) hbn; replace hB := bl_trans (bl_trans hB (by go_grown)) hbn; replace P := P.bel (bl_trans (by go_grown) hbn); replace Pc := P.c1; replace Q := Q.bel (bl_trans (by go_grown) hbn); replace Qc := Q.c2; replace D := D.bel (bl_trans (by go_grown) hbn); replace Dc := D.c3; replace E := E.bel (bl_trans (by go_grown) hbn); replace Ec := E.c2; replace F := F.bel (bl_trans (by go_grown) hbn); replace Fc := F.c2; replace O1 := Lib.hid (O1.out.bel hbn); clear hbn))
              (refine (l32Reached_any A c rs x y _ _ _ (sortD laid) _ hl rfl HC.out (hr'.out.below (bl_trans hB (by go_grown))) (O1.out.rd.below (by go_grown)) HREG.out HOK.out).mono ?_; rintro e wn ⟨g, rfl, ⟨hg, M⟩, hbn⟩; have hSz := bl_sz (bl_trans hB (by go_grown)) hbn; replace hB := bl_trans (bl_trans hB (by go_grown)) hbn; replace P := P.bel (bl_trans (by go_grown) hbn); replace Pc := P.c1; replace Q := Q.bel (bl_trans (by go_grown) hbn); replace Qc := Q.c2; replace D := D.bel (bl_trans (by go_grown) hbn); replace Dc := D.c3; replace E := E.bel (bl_trans (by go_grown) hbn); replace Ec := E.c2; replace F := F.bel (bl_trans (by go_grown) hbn); replace Fc := F.c2; rw [← HR.out] at M; have m1 := M.getB hb1; rw [C6.out] at m1; have m2 := M.getB hb2; clear hbn)
              go_wp2_with (first | (go_at_call 72; refine (CellIndex_s _ _ _).mono ?_; rintro e wn ⟨rfl, hbn⟩; have hSz := bl_sz (bl_trans hB (by go_grown)) hbn; replace hB := bl_trans (bl_trans hB (by go_grown)) hbn; replace P := P.bel (bl_trans (by go_grown) hbn); replace Pc := P.c1; replace Q := Q.bel (bl_trans (by go_grown) hbn); replace Qc := Q.c2; replace D := D.bel (bl_trans (by go_grown) hbn); replace Dc := D.c3; replace E := E.bel (bl_trans (by go_grown) hbn); replace Ec := E.c2; replace F := F.bel (bl_trans (by go_grown) hbn); replace Fc := F.c2; (first | rw [I1.out] | rw [I2.out]); replace M := M.bel hbn; have m1 := M.getB hb1; rw [C6.out] at m1; have m2 := M.getB hb2; clear hbn))
              go_ret
              exact ⟨ret_bool (by rw [H.out]), hB⟩
end Go.Proofs.Ytmhgifdnnlijcaa

/-
  Contracts of the reference's copy of a region and of a region of which one cell is taken away (WithCell with 'false'): what each returns; nothing that was there is written.
-/
import Derived.Test.YtdcjhfmkkcakhaaRows2
import Derived.Test.YtdcjhfmkkcakhaaRect
import Derived.Test.YtdcjhfmkkcakhaaCovL
import Derived.Deep.RegionLaw
import Derived.Deep.CutRange
namespace Go.Proofs.Ytdcjhfmkkcakhaa
open Go.ChangeShapes Go.WideShapes Go.ChangeAt Go.RowKit Go.Deep
set_option linter.unusedVariables false

theorem OwI.rowB {B : Nat} {w : World} {v : Value} {l : List Int} (h : OwI B w v l) (hl : l ≠ []) :
    ∃ g cap rest, v = .slice (some ⟨g, 0, none⟩) l.length cap ∧ B ≤ g ∧ l.length ≤ cap ∧ cap ≤ maxLen ∧ ((l.map cI) ++ rest).length = cap * 1 ∧ Blk w g 3 ((l.map cI) ++ rest) := by
  rcases h.2.1.2 with ⟨_, h0⟩ | ⟨g, cap, cur, hv, hb, hg, hn, hm, hs, ht⟩
  · exact absurd (List.eq_nil_of_length_eq_zero h0) hl
  · have e : (l.map cI) ++ cur.toList.drop (l.length * 1) = cur.toList := by rw [← ht]; exact List.take_append_drop _ _
    refine ⟨g, cap, cur.toList.drop (l.length * 1), hv, hb, hn, hm, ?_, ?_⟩
    · rw [e]; simpa using hs
    · rw [e]; exact hg
theorem Blk.rowI {B g cap : Nat} {w : World} {l : List Int} {rest : List Value} (h : Blk w g 3 ((l.map cI) ++ rest)) (hB : B ≤ g) (hn : l.length ≤ cap) (hm : cap ≤ maxLen) (hs : ((l.map cI) ++ rest).length = cap * 1) (hg : ∀ x ∈ l, I64 x) :
    OwI B w (.slice (some ⟨g, 0, none⟩) l.length cap) l := by
  have e : (l.map cI).length = l.length * 1 := by simp
  exact ⟨⟨_, _, rfl⟩, ⟨e, .inr ⟨g, cap, _, rfl, hB, h, hn, hm, by simpa using hs, by rw [← e]; simp⟩⟩, hg⟩
theorem Blk.putI {g k : Nat} {w : World} {l : List Int} {rest : List Value} {x : Int} (h : Blk w g 3 ((l.map cI) ++ rest)) (hk : k < l.length) :
    Blk (w.setCell ⟨g, k, none⟩ (.int .i64 x)) g 3 (((l.set k x).map cI) ++ rest) := by
  have := h.set_ k (.int .i64 x)
  rw [List.set_append_left _ _ (by simpa using hk)] at this
  rw [List.map_set]
  exact this
theorem Blk.growI {w w' : World} {g B : Nat} {E : TypeId} {xs : List Value} {v : Value} {l : List Int} (h : Blk w g E xs) (o : OwI B w v l) (hne : E ≠ 3) (hg : w.grownBy w' v.ownBlock) : Blk w' g E xs := (hg.block g h.lt (by first | exact (fun e => o.typ h hne g e.symm rfl) | exact (fun e => o.typ h hne g e rfl))).trans h
def padR (rs : List Int) : List Int := rs ++ List.replicate (8 - rs.length) 0
def withC (rs : List Int) (x y : Nat) : List Int := (padR rs).set y ((((((padR rs)[y]?).getD 0).toNat ||| 2 ^ x : Nat) : Int) - ((2 ^ x : Nat) : Int))
theorem or_pow8 {p e : Nat} (hp : p ≤ 255) (he : e < 8) : bits BinOp.or IntKind.i64 (p : Int) (IntKind.i64.wrap ((2 : Int) ^ e)) = ((p ||| 2 ^ e : Nat) : Int) ∧ p ||| 2 ^ e ≤ 255 ∧ 2 ^ e ≤ p ||| 2 ^ e := by
  rw [wrap_pow_i (by omega)]
  have h1 : 2 ^ e ≤ 2 ^ 7 := Nat.pow_le_pow_right (by decide) (by omega)
  have h2 : p ||| 2 ^ e < 2 ^ 8 := Nat.or_lt_two_pow (by omega) (by omega)
  exact ⟨i64_or_nat _ _ (by omega) (by omega), by omega, Nat.right_le_or⟩
theorem sub255 {a b : Nat} (h1 : a ≤ 255) (h2 : b ≤ a) : IntKind.i64.wrap ((a : Int) - (b : Int)) = (a : Int) - (b : Int) := IntWalk.i64_in _ (by omega)
theorem with_val {n X : Nat} (hn : n ≤ 255) (hX : X < 8) : ∃ p q r : Nat, r ≤ 255 ∧ Hid (((n ||| 2 ^ X : Nat) : Int) - ((2 ^ X : Nat) : Int) = r) ∧ wrap64 ((2 : Int) ^ X) = (q : Int) ∧ bits BinOp.or IntKind.i64 (n : Int) (q : Int) = (p : Int) ∧ wrap64 ((p : Int) - (q : Int)) = (r : Int) := by
  obtain ⟨f1, f2, f3⟩ := or_pow8 hn hX
  have f0 : wrap64 ((2 : Int) ^ X) = ((2 ^ X : Nat) : Int) := by have := wrap_pow_i (n := X) (by omega); rwa [wrap_i64] at this
  rw [wrap_pow_i (by omega)] at f1
  refine ⟨n ||| 2 ^ X, 2 ^ X, (n ||| 2 ^ X) - 2 ^ X, Nat.le_trans (Nat.sub_le _ _) f2, Lib.hid ?_, f0, f1, ?_⟩
  · generalize 2 ^ X = q at *
    omega
  · have f4 := sub255 f2 f3
    rw [wrap_i64] at f4
    refine f4.trans ?_
    generalize 2 ^ X = q at *
    omega
theorem res_regb {fn : Func} {s s2 g : Nat} (hres : fn.results = #[.cell s 31, .tmp s2]) {tmps : Array Value} {w : World} {a v : Value}
    (h1 : tmps.getD s undef = .pointer (some ⟨g, 0, none⟩)) (h2 : tmps.getD s2 undef = v) (B : Blk w g 31 [a]) : (results fn tmps).run Try.prog w = .ok (.tuple #[.agg #[a], v]) w := by
  have c1 := B.c1
  simp only [Array.getD_eq_getD_getElem?] at h1 h2
  simp [results, hres, h1, h2, go_sem, c1]
set_option maxHeartbeats 1000000 in
theorem l03Copy_any (A : Option Addr) (c : Nat) (l : List Int) (w : World) (hl : l.length ≤ 1048576) (hr : RdI w A l) :
    Calls Try.prog 119 #[.agg #[.slice A l.length c]] w fun e w' => ∃ B d, e = .returned (.agg #[.slice B l.length d]) ∧ OwI w.heap.size w' (.slice B l.length d) l ∧ Below w.heap.size w w' := by
  have hr' := Lib.hid hr
  clear hr
  have hB := Below.refl w.heap.size w
  have R := Blk.new2 w (.cells #[.slice A l.length c] 31) 31 [.slice none 0 0]
  have Rc := R.c1
  have ow := Lib.hid (OwI.new_ (B := w.heap.size + 2) (w := (w.alloc (.cells #[.slice A l.length c] 31)).alloc (.cells #[.slice none 0 0] 31)) (by rw [World.size_alloc, World.size_alloc]; omega))
  rw [World.size_alloc, World.size_alloc] at ow
  go_enter Try.func119, Try.ntmps119
  go_wp2_with (at_builtin; go_must (refine wpList_apsI rfl (.tmp 3) (.tmp 5) rfl (w.heap.size + 2) _ [] l A c rfl _ rfl ow.out (hr'.out.below (by go_grown)) rfl (by simp; try omega) (by simp) hl ?_; intro A1 L1 c1 w1 hL1 o1 b1 g1; have hL2 : L1 = l.length := hL1.out; subst hL2; have hB1 := b1 _ (Below.alloc (Below.refl _ _) (by simp) (.cells #[] 3)); have R1 := R.below hB1 (by omega); have Rc1 := R1.c1; have Rf1 := R1.frozen 0; have R2 := R1.set_ 0 (.slice A1 l.length c1); have O1 := Lib.hid o1; clear o1 b1 g1))
  exact bodyPost_ret (res_region rfl rfl R2) rfl ⟨A1, c1, rfl, OwI.mono (O1.out.set_ (p := ⟨w.heap.size + 1, 0, none⟩) (by show w.heap.size + 1 < w.heap.size + 2; omega) _) (by omega), bl_set (bl_trans (Below.alloc (Below.alloc (Below.refl _ _) (Nat.le_refl _) _) (by rw [World.size_alloc]; omega) _) (Below.mono hB1 (by rw [World.size_alloc, World.size_alloc]; try omega))) (p := ⟨w.heap.size + 1, 0, none⟩) (by show w.heap.size ≤ w.heap.size + 1; omega) _⟩
theorem padR_len {rs : List Int} (h : rs.length ≤ 8) : (padR rs).length = 8 := by simp [padR]; omega
theorem padR_small {rs : List Int} (h : regOk rs = true) : ∀ v ∈ padR rs, 0 ≤ v ∧ v ≤ 255 := by
  intro v hv
  rcases List.mem_append.1 hv with hv | hv
  · exact (regOk_iff.1 h).2 v hv
  · have := List.eq_of_mem_replicate hv; omega
theorem padTo_step (rs : List Int) (k : Nat) : (rs ++ List.replicate k 0) ++ [0] = rs ++ List.replicate (k + 1) 0 := by
  rw [List.append_assoc, ← List.replicate_succ']
set_option maxRecDepth 100000 in
set_option maxHeartbeats 4000000 in
theorem WithCell_s (A : Option Addr) (c : Nat) (rs : List Int) (X Y : Nat) (hX : X < 8) (hY : Y < 8) (w : World) (hreg : regOk rs = true) (hr : RdI w A rs) :
    Calls Try.prog 39 #[.agg #[.slice A rs.length c], .agg #[.int .i64 X, .int .i64 Y], .bool false] w fun e w' => ∃ B d, e = .returned (.tuple #[.agg #[.slice B 8 d], .bool true]) ∧ OwI w.heap.size w' (.slice B 8 d) (withC rs X Y) ∧ Below w.heap.size w w' := by
  have h8 : rs.length ≤ 8 := (regOk_iff.1 hreg).1
  have hl : rs.length ≤ 1048576 := by omega
  have hok : cellOk (X : Int) (Y : Int) = true := cellOk_iff.2 ⟨by omega, by omega⟩
  have hr' := Lib.hid hr
  clear hr
  have hB := Below.refl w.heap.size w
  have P := ((Blk.new w 31 [.slice A rs.length c]).alloc (.cells #[.int .i64 (X : Int), .int .i64 (Y : Int)] 35)).alloc (.cells #[.slice none 0 0] 31)
  have C := (Blk.new2 w (.cells #[.slice A rs.length c] 31) 35 [.int .i64 (X : Int), .int .i64 (Y : Int)]).alloc (.cells #[.slice none 0 0] 31)
  have R := Blk.new3 w (.cells #[.slice A rs.length c] 31) (.cells #[.int .i64 (X : Int), .int .i64 (Y : Int)] 35) 31 [.slice none 0 0]
  have Pc := P.c1
  have Cc := C.c2
  have Rc := R.c1
  go_enter Try.func39, Try.ntmps39
  go_wp2_with fail
  (refine (l03Copy_any A c rs _ hl (hr'.out.below (bl_trans hB (by go_grown)))).mono ?_; rintro e w1 ⟨A1, c1, rfl, o1, hb1⟩; replace hB := bl_trans (bl_trans hB (by go_grown)) hb1; have O1 := Lib.hid (show OwI w.heap.size w1 _ rs from o1.mono (by go_size)); have s1 := hb1.size; replace P := P.bel hb1; replace C := C.bel hb1; replace R := R.bel hb1; replace Pc := P.c1; replace Cc := C.c2; replace Rc := R.c1; clear o1 hb1)
  obtain ⟨g, hg⟩ : ∃ g, g = w1.heap.size := ⟨_, rfl⟩
  have T := Blk.new w1 31 [.slice A1 rs.length c1]
  rw [← hg] at T
  have hgz : w.heap.size + 3 ≤ g := by rw [World.size_alloc, World.size_alloc, World.size_alloc] at s1; omega
  have HO0 := Lib.hid (O1.out.alloc' (.cells #[.slice A1 rs.length c1] 31))
  replace hB := hB.alloc (by rw [← hg]; omega) (.cells #[.slice A1 rs.length c1] 31)
  replace P := P.alloc (.cells #[.slice A1 rs.length c1] 31)
  replace C := C.alloc (.cells #[.slice A1 rs.length c1] 31)
  replace R := R.alloc (.cells #[.slice A1 rs.length c1] 31)
  replace Pc := P.c1
  replace Cc := C.c2
  replace Rc := R.c1
  have Tc := T.c1
  clear O1
  go_wp2_with (first | (go_at_call 94; refine (RegionOk_s A c rs _ hl (hr'.out.below (bl_trans hB (by go_grown)))).mono ?_; rintro e wn ⟨rfl, hbn⟩; have hSz := bl_sz (bl_trans hB (by go_grown)) hbn; replace hB := bl_trans (bl_trans hB (by go_grown)) hbn; replace P := P.bel (bl_trans (by go_grown) hbn); replace Pc := P.c1; replace C := C.bel (bl_trans (by go_grown) hbn); replace Cc := C.c2; replace R := R.bel (bl_trans (by go_grown) hbn); replace Rc := R.c1; replace T := T.bel (bl_trans (by go_grown) hbn); replace Tc := T.c1; replace HO0 := Lib.hid (HO0.out.bel hbn); clear hbn) | (go_at_call 120; refine (CellOk_s _ _ _).mono ?_; rintro e wn ⟨rfl, hbn⟩; have hSz := bl_sz (bl_trans hB (by go_grown)) hbn; replace hB := bl_trans (bl_trans hB (by go_grown)) hbn; replace P := P.bel (bl_trans (by go_grown) hbn); replace Pc := P.c1; replace C := C.bel (bl_trans (by go_grown) hbn); replace Cc := C.c2; replace R := R.bel (bl_trans (by go_grown) hbn); replace Rc := R.c1; replace T := T.bel (bl_trans (by go_grown) hbn); replace Tc := T.c1; replace HO0 := Lib.hid (HO0.out.bel hbn); clear hbn))
  clear hSz s1
  subst hg
  go_loopg [] (9 - rs.length) (fun f wr => ∃ k u, f + rs.length + k = 9 ∧ rs.length + k ≤ 8 ∧ OwI w.heap.size wr u (rs ++ List.replicate k 0) ∧ Blk wr w1.heap.size 31 [u] ∧ Blk wr w.heap.size 31 [.slice A rs.length c] ∧ Blk wr (w.heap.size + 1) 35 [.int .i64 X, .int .i64 Y] ∧ Blk wr (w.heap.size + 1 + 1) 31 [.slice none 0 0] ∧ Below w.heap.size w wr)
  case atStart => exact ⟨0, _, by omega, by omega, by simpa using HO0.out, T, P, C, R, hB⟩
  case round =>
    obtain ⟨k, u, hk, hk9, own, T', P', C', R', hB'⟩ := hrel
    clear T P C R hB Tc Pc Cc Rc HO0
    have hlen : (rs ++ List.replicate k 0).length = rs.length + k := by simp
    have Tc := T'.c1
    have Tf := T'.frozen 0
    obtain ⟨⟨A2, c2, rfl⟩, _⟩ := id own
    rw [hlen] at own Tc T'
    by_cases hlt : rs.length + k < 8
    · have hq : decide (((rs.length + k : Nat) : Int) < 8) = true := by simp only [decide_eq_true_eq]; omega
      have hle : (rs ++ List.replicate k 0).length ≤ 1048576 := by omega
      have HL := Lib.hid hlen
      have hsz := hB'.size
      have hrep := Lib.hid (padTo_step rs k)
      have HO := Lib.hid own
      clear own hlen
      go_wp2_with (at_builtin; go_must (refine wpList_as1I rfl (.tmp 25) (.tmp 26) rfl w.heap.size _ _ _ rfl rfl HO.out hsz hle ⟨by omega, by omega⟩ ?_; intro A3 L3 c3 w3 hL3 o3 b3 g3 s3; have hB3 := b3 _ hB'; have T3 := T'.growI HO.out (by decide) g3; have P3 := P'.growI HO.out (by decide) g3; have C3 := C'.growI HO.out (by decide) g3; have R3 := R'.growI HO.out (by decide) g3; have Tc3 := T3.c1; have Tf3 := T3.frozen 0; have O3 := Lib.hid o3; clear o3 b3 g3))
      go_roundg (gk - 1)
      case measure => omega
      case rel => exact ⟨k + 1, .slice A3 L3 c3, by omega, by omega, by rw [← hrep.out]; exact O3.out.setFar (p := ⟨w1.heap.size, 0, none⟩) (by cases A3 with | none => exact .inl rfl | some a => exact .inr (fun e => O3.out.typ T3 (by decide) _ e rfl)) _, T3.set_ 0 _, P3.farN _ _ (by omega) _, C3.farN _ _ (by omega) _, R3.farN _ _ (by omega) _, bl_set hB3 (p := ⟨w1.heap.size, 0, none⟩) (by show w.heap.size ≤ w1.heap.size; omega) _⟩
    · have hk8 : rs.length + k = 8 := by omega
      have hpad : rs ++ List.replicate k 0 = padR rs := by rw [padR, show 8 - rs.length = k by omega]
      have hsm := padR_small hreg
      rw [hk8] at Tc T' own
      rw [hpad] at own
      have hp8 := padR_len h8
      obtain ⟨g2, cap, rest, e2, hg2, hn2, hm2, hs2, G⟩ := own.rowB (by intro e; rw [e] at hp8; simp at hp8)
      rw [hp8] at e2
      injection e2 with e3 e4 e5
      subst e3 e5
      have hx : (padR rs)[Y]? = some (padR rs)[Y] := List.getElem?_eq_getElem (by omega)
      obtain ⟨n, hn⟩ : ∃ n : Nat, (padR rs)[Y] = n := ⟨((padR rs)[Y]).toNat, by have := hsm _ (List.getElem_mem (h := by omega) (l := padR rs) (n := Y)); omega⟩
      have hn255 : n ≤ 255 := by have := hsm _ (List.getElem_mem (h := by omega) (l := padR rs) (n := Y)); omega
      rw [hn] at hx
      obtain ⟨p, q, r, hr255, Hw, f0, f1, f2⟩ := with_val hn255 hX
      have Gc : wr.cell? ⟨g2, Y, none⟩ = some (.int .i64 (n : Int)) := by rw [G.cell Y, List.getElem?_append_left (by simp; omega), List.getElem?_map, hx]; rfl
      have Gf := G.frozen Y
      have hneT : g2 ≠ w1.heap.size := fun e => own.typ T' (by decide) g2 rfl e.symm
      have hneC : g2 ≠ w.heap.size + 1 := fun e => own.typ C' (by decide) g2 rfl e.symm
      have hneR : g2 ≠ w.heap.size + 1 + 1 := fun e => own.typ R' (by decide) g2 rfl e.symm
      have Cc := C'.c2
      have hYc : (Y : Int) < 8 := by omega
      have G2 := Lib.hid G
      have HP8 := Lib.hid hp8
      have Hx := Lib.hid hx
      clear own hsm hpad e4 hx hn hp8
      have G1 : Blk (wr.setCell ⟨g2, Y, none⟩ (.int .i64 (p : Int))) g2 3 (((padR rs).set Y (p : Int)).map cI ++ rest) := G2.out.putI (by rw [HP8.out]; exact hY)
      have HG1 := Lib.hid G1.drew
      have HT1 := Lib.hid (T'.farN g2 Y (Ne.symm hneT) (.int .i64 (p : Int))).drew
      have HC1 := Lib.hid (C'.farN g2 Y (Ne.symm hneC) (.int .i64 (p : Int))).drew
      have HR1 := Lib.hid (R'.farN g2 Y (Ne.symm hneR) (.int .i64 (p : Int))).drew
      have HB1 := Lib.hid (bl_drew (bl_set hB' (p := ⟨g2, Y, none⟩) hg2 (.int .i64 (p : Int))))
      clear G G1
      go_upto_region 6 with fail
      go_cut [7] from 29 to 43 (fun s7 wx => s7 = .bool false ∧ Blk wx g2 3 (((padR rs).set Y (p : Int)).map cI ++ rest) ∧ Blk wx w1.heap.size 31 [.slice (some ⟨g2, 0, none⟩) 8 c2] ∧ Blk wx (w.heap.size + 1) 35 [.int .i64 (X : Int), .int .i64 (Y : Int)] ∧ Blk wx (w.heap.size + 1 + 1) 31 [.slice none 0 0] ∧ Below w.heap.size w wx)
      case first =>
        go_region
        go_wp2_with fail
        go_meet
        exact ⟨rfl, HG1.out, HT1.out, HC1.out, HR1.out, HB1.out⟩
      case rest =>
        obtain ⟨rfl, G1, T1, C1, R1, B1⟩ := hcut
        clear HG1 HT1 HC1 HR1 HB1 G2 T' C' R' hB' Gc Gf Cc Tc Tf
        have G1c : wc.cell? ⟨g2, Y, none⟩ = some (.int .i64 (p : Int)) := by rw [G1.cell Y, List.getElem?_append_left (by simp [HP8.out]; omega), List.getElem?_map, List.getElem?_set_self (by rw [HP8.out]; exact hY)]; rfl
        have G1f := G1.frozen Y
        have T1c := T1.c1
        have C1c := C1.c2
        have R1c := R1.c1
        have G3 : Blk (wc.setCell ⟨g2, Y, none⟩ (.int .i64 (r : Int))) g2 3 (((withC rs X Y)).map cI ++ rest) := by
          have := G1.putI (k := Y) (x := (r : Int)) (by rw [List.length_set, HP8.out]; exact hY)
          rw [List.set_set] at this
          rw [withC, Hx.out]
          have hw := Hw.out
          simp only [Option.getD_some, Int.toNat_natCast] at hw ⊢
          rw [hw]
          exact this
        have HG3 := Lib.hid G3.drew
        have HT3 := Lib.hid (T1.farN g2 Y (Ne.symm hneT) (.int .i64 (r : Int))).drew
        have HR3 := Lib.hid (R1.farN g2 Y (Ne.symm hneR) (.int .i64 (r : Int))).drew
        have HB3 := Lib.hid (bl_drew (bl_set B1 (p := ⟨g2, Y, none⟩) hg2 (.int .i64 (r : Int))))
        clear G3
        go_upto_region 8 with fail
        go_cut [7] from 46 to 60 (fun s7 wx => s7 = .bool false ∧ Blk wx g2 3 (((withC rs X Y)).map cI ++ rest) ∧ Blk wx w1.heap.size 31 [.slice (some ⟨g2, 0, none⟩) 8 c2] ∧ Blk wx (w.heap.size + 1 + 1) 31 [.slice none 0 0] ∧ Below w.heap.size w wx)
        case first =>
          go_region
          go_wp2_with fail
          go_meet
          exact ⟨rfl, HG3.out, HT3.out, HR3.out, HB3.out⟩
        case rest =>
          obtain ⟨rfl, G3, T3, R3, B3⟩ := hcut
          clear HG3 HT3 HR3 HB3 G1 T1 C1 R1 B1 G1c G1f T1c C1c R1c
          have T3c := T3.c1
          have R3c := R3.c1
          have R3f := R3.frozen 0
          have HG3 := Lib.hid G3
          clear G3
          go_wp2_with fail
          have R4 := R3.set_ 0 (.slice (some ⟨g2, 0, none⟩) 8 c2)
          have G4 := HG3.out.farN (w.heap.size + 1 + 1) 0 hneR (.slice (some ⟨g2, 0, none⟩) 8 c2)
          have hl8 : (withC rs X Y).length = 8 := by rw [withC, List.length_set, HP8.out]
          have hmem : ∀ x ∈ withC rs X Y, I64 x := by
            intro x hx
            rw [withC, Hx.out] at hx
            have hw := Hw.out
            simp only [Option.getD_some, Int.toNat_natCast] at hw hx
            rw [hw] at hx
            rcases List.mem_or_eq_of_mem_set hx with h | h
            · have := padR_small hreg x h; exact ⟨by omega, by omega⟩
            · exact ⟨by omega, by omega⟩
          have O4 := Blk.rowI (B := w.heap.size) (cap := c2) G4 hg2 (by rw [hl8]; rw [HP8.out] at hn2; exact hn2) hm2 (by rw [← hs2]; simp [hl8, HP8.out]) hmem
          rw [hl8] at O4
          exact bodyPost_ret (res_regb (s := 6) (s2 := 7) (v := .bool true) rfl rfl rfl R4) rfl ⟨some ⟨g2, 0, none⟩, c2, rfl, O4, bl_set B3 (p := ⟨w.heap.size + 1 + 1, 0, none⟩) (by show w.heap.size ≤ w.heap.size + 1 + 1; omega) _⟩
end Go.Proofs.Ytdcjhfmkkcakhaa

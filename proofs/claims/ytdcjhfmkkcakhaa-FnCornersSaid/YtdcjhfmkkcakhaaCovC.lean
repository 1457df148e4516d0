/-
  The corner tiles over a cell (a plain model), and the contracts of CountCorners (both): what each returns, as a function of its arguments; nothing that was there is written; no condition.
-/
import Derived.Test.YtdcjhfmkkcakhaaCov
import Derived.Test.YtdcjhfmkkcakhaaCovM
import Derived.Deep.CutRange
import Derived.Deep.CutBlock
import Derived.Deep.DeepMust
namespace Go.Proofs.Ytdcjhfmkkcakhaa
open Go.ChangeShapes Go.WideShapes Go.ChangeAt Go.RowKit Go.Deep
set_option linter.unusedVariables false

def tC3 (x y dx dy : Int) : Nat → List Nat
  | 0 => []
  | z + 1 => tC3 x y dx dy z ++ if hasBit (cOwn (x + dx, y + dy, (z : Int))) x y then [cOwn (x + dx, y + dy, (z : Int))] else []
def tC2 (x y dx : Int) : Nat → List Nat
  | 0 => []
  | j + 1 => tC2 x y dx j ++ tC3 x y dx ((j : Int) - 1) 4
def tC1 (x y : Int) : Nat → List Nat
  | 0 => []
  | i + 1 => tC1 x y i ++ tC2 x y ((i : Int) - 1) 2
def tilesC (q : Nat) : List Nat := tC1 (cellOf q).1 (cellOf q).2 2
theorem tC3_len (x y dx dy : Int) : ∀ z, (tC3 x y dx dy z).length ≤ z
  | 0 => by simp [tC3]
  | z + 1 => by have := tC3_len x y dx dy z; rw [tC3, List.length_append]; split <;> simp <;> omega
theorem tC2_len (x y dx : Int) : ∀ j, (tC2 x y dx j).length ≤ 4 * j
  | 0 => by simp [tC2]
  | j + 1 => by have := tC2_len x y dx j; have := tC3_len x y dx ((j : Int) - 1) 4; rw [tC2, List.length_append]; omega
theorem tC1_len (x y : Int) : ∀ i, (tC1 x y i).length ≤ 8 * i
  | 0 => by simp [tC1]
  | i + 1 => by have := tC1_len x y i; have := tC2_len x y ((i : Int) - 1) 2; rw [tC1, List.length_append]; omega
theorem hasBit_ne {o : Nat} {x y : Int} (h : hasBit o x y = true) : o ≠ 0 := by
  rintro rfl; simp [hasBit] at h
theorem tC3_ne (x y dx dy : Int) : ∀ z, ∀ o ∈ tC3 x y dx dy z, hasBit o x y = true
  | 0 => by simp [tC3]
  | z + 1 => fun o ho => by
    rw [tC3, List.mem_append] at ho
    rcases ho with ho | ho
    · exact tC3_ne x y dx dy z o ho
    · split at ho
      · rename_i h; simp at ho; rw [ho]; exact h
      · simp at ho
theorem tC2_ne (x y dx : Int) : ∀ j, ∀ o ∈ tC2 x y dx j, hasBit o x y = true
  | 0 => by simp [tC2]
  | j + 1 => fun o ho => by
    rw [tC2, List.mem_append] at ho
    rcases ho with ho | ho
    · exact tC2_ne x y dx j o ho
    · exact tC3_ne _ _ _ _ _ o ho
theorem tC1_ne (x y : Int) : ∀ i, ∀ o ∈ tC1 x y i, hasBit o x y = true
  | 0 => by simp [tC1]
  | i + 1 => fun o ho => by
    rw [tC1, List.mem_append] at ho
    rcases ho with ho | ho
    · exact tC1_ne x y i o ho
    · exact tC2_ne _ _ _ _ o ho
set_option maxRecDepth 100000 in
set_option maxHeartbeats 2000000 in
theorem tilesC_any (q : Nat) (w : World) (hq : q < 64) :
    Calls Try.prog 125 #[.agg #[.int .i64 (cellOf q).1, .int .i64 (cellOf q).2]] w fun e w' => ∃ v, e = .returned v ∧ OwU w.heap.size w' v (tilesC q) ∧ Below w.heap.size w w' := by
  have ht : tilesC q = tC1 (cellOf q).1 (cellOf q).2 2 := rfl
  have hr := cellOk_iff.1 (cellOf_ok q hq)
  obtain ⟨x, hx⟩ : ∃ x, x = (cellOf q).1 := ⟨_, rfl⟩
  obtain ⟨y, hy⟩ : ∃ y, y = (cellOf q).2 := ⟨_, rfl⟩
  rw [← hx, ← hy] at ht hr ⊢
  have HT := Lib.hid ht
  clear ht hx hy
  have hB := bl_alloc (bl_alloc (Below.refl w.heap.size w) (.cells #[.int .i64 x, .int .i64 y] 35)) (.cells #[] 112)
  have P := (Blk.new w 35 [.int .i64 x, .int .i64 y]).alloc (.cells #[] 112)
  have O := Lib.hid (OwU.new_ (B := w.heap.size + 1) (w := w.alloc (.cells #[.int .i64 x, .int .i64 y] 35)) (by simp))
  rw [World.size_alloc] at O
  go_enter Try.func125, Try.ntmps125
  go_wp2
  go_loopw [3, 4] (fun v d wr => ∃ i : Nat, i ≤ 2 ∧ d = .int .i64 ((i : Int) - 1) ∧ OwU (w.heap.size + 1) wr v (tC1 x y i) ∧ Blk wr w.heap.size 35 [.int .i64 x, .int .i64 y] ∧ Below w.heap.size w wr) (fun _ d _ => (1 - intOf d).toNat)
  case atStart => exact ⟨0, by omega, rfl, O.out, P, hB⟩
  case round =>
    obtain ⟨i, hi, rfl, own, P1, hB1⟩ := hrel
    clear P O hB
    by_cases hi2 : i < 2
    · have d0 : decide ((i : Int) - 1 ≤ 0) = true := decide_eq_true (by omega)
      have hs1 := Lib.hid (show tC1 x y (i + 1) = tC1 x y i ++ tC2 x y ((i : Int) - 1) 2 from rfl)
      obtain ⟨l1, hl1⟩ : ∃ l1, l1 = tC1 x y i := ⟨_, rfl⟩
      have hl1n := tC1_len x y i
      rw [← hl1] at own hl1n hs1
      obtain ⟨dx, hdx⟩ : ∃ dx : Int, dx = (i : Int) - 1 := ⟨_, rfl⟩
      rw [← hdx] at d0 hs1 ⊢
      have HDX := Lib.hid hdx
      have hdr : -1 ≤ dx ∧ dx ≤ 0 := by omega
      clear hl1 hdx
      obtain ⟨wa, rfl⟩ : ∃ wa : World, wa = wr := ⟨_, rfl⟩
      go_wp2_with fail
      go_loopw [3, 5] (fun v d wr => ∃ j : Nat, j ≤ 2 ∧ d = .int .i64 ((j : Int) - 1) ∧ OwU (w.heap.size + 1) wr v (l1 ++ tC2 x y dx j) ∧ Blk wr w.heap.size 35 [.int .i64 x, .int .i64 y] ∧ Below w.heap.size w wr) (fun _ d _ => (1 - intOf d).toNat)
      case atStart => exact ⟨0, by omega, rfl, by simpa [tC2] using own, P1, hB1⟩
      case round =>
        obtain ⟨j, hj, rfl, own2, P2, hB2⟩ := hrel
        clear own P1 hB1
        by_cases hj2 : j < 2
        · have e0 : decide ((j : Int) - 1 ≤ 0) = true := decide_eq_true (by omega)
          have hs2 := Lib.hid (show l1 ++ tC2 x y dx (j + 1) = (l1 ++ tC2 x y dx j) ++ tC3 x y dx ((j : Int) - 1) 4 by rw [tC2, List.append_assoc])
          obtain ⟨l2, hl2⟩ : ∃ l2, l2 = l1 ++ tC2 x y dx j := ⟨_, rfl⟩
          have hl2n : l2.length ≤ 100 := by rw [hl2, List.length_append]; have := tC2_len x y dx j; omega
          rw [← hl2] at own2 hs2
          obtain ⟨dy, hdy⟩ : ∃ dy : Int, dy = (j : Int) - 1 := ⟨_, rfl⟩
          rw [← hdy] at e0 hs2 ⊢
          have HDY := Lib.hid hdy
          have her : -1 ≤ dy ∧ dy ≤ 0 := by omega
          clear hl2 hdy
          obtain ⟨wb, rfl⟩ : ∃ wb : World, wb = wr := ⟨_, rfl⟩
          go_wp2_with fail
          go_loopw [3, 18] (fun v d wr => ∃ z : Nat, z ≤ 4 ∧ d = .int .i64 z ∧ OwU (w.heap.size + 1) wr v (l2 ++ tC3 x y dx dy z) ∧ Blk wr w.heap.size 35 [.int .i64 x, .int .i64 y] ∧ Below w.heap.size w wr) (fun _ d _ => 4 - (intOf d).toNat)
          case atStart => exact ⟨0, by omega, rfl, by simpa [tC3] using own2, P2, hB2⟩
          case round =>
            obtain ⟨z, hz, rfl, own3, P3, hB3⟩ := hrel
            clear own2 P2 hB2
            by_cases hz4 : z < 4
            · have f0 : decide ((z : Int) < 4) = true := decide_eq_true (by omega)
              have hs3 : l2 ++ tC3 x y dx dy (z + 1) = (l2 ++ tC3 x y dx dy z) ++ if hasBit (cOwn (x + dx, y + dy, (z : Int))) x y then [cOwn (x + dx, y + dy, (z : Int))] else [] := by rw [tC3, List.append_assoc]
              obtain ⟨l3, hl3⟩ : ∃ l3, l3 = l2 ++ tC3 x y dx dy z := ⟨_, rfl⟩
              have hl3n : l3.length ≤ 1048576 := by rw [hl3, List.length_append]; have := tC3_len x y dx dy z; omega
              rw [← hl3] at own3 hs3
              obtain ⟨X, hX⟩ : ∃ X, X = x + dx := ⟨_, rfl⟩
              obtain ⟨Y, hY⟩ : ∃ Y, Y = y + dy := ⟨_, rfl⟩
              have hX1 : IntKind.i64.wrap (x + dx) = X := by rw [hX]; exact IntWalk.i64_in _ (by omega)
              have hY1 : IntKind.i64.wrap (y + dy) = Y := by rw [hY]; exact IntWalk.i64_in _ (by omega)
              rw [← hX, ← hY] at hs3
              have hX2 : x + dx = X := hX.symm
              have hY2 : y + dy = Y := hY.symm
              obtain ⟨o, ho⟩ : ∃ o, o = cOwn (X, Y, (z : Int)) := ⟨_, rfl⟩
              have hol := cOwn_lt (X, Y, (z : Int))
              have hcl : (cornerCells X Y z).length ≤ 1048576 := by unfold cornerCells; split; · have := ccUpto_len X Y z 4; omega
                                                                    · simp
              have hcok : ∀ c ∈ cornerCells X Y z, cellOk c.1 c.2 = true := by
                cases h : cornerOk X Y z
                · simp [cornerCells, h]
                · exact (corner_cells h).1
              have Hcok := Lib.hid hcok
              rw [← ho] at hs3 hol
              have Ho := Lib.hid (show setL (cornerCells X Y z) = o from ho.symm)
              have P := P3.alloc (.cells #[.int .i64 X, .int .i64 Y, .int .i64 z] 68)
              have Pc := P.c2
              have Q := Blk.new wr 68 [.int .i64 X, .int .i64 Y, .int .i64 z]
              have Qc := Q.c3
              have hB := bl_alloc hB3 (.cells #[.int .i64 X, .int .i64 Y, .int .i64 z] 68)
              have hP3c := P3.c2
              have Own3 := Lib.hid (own3.bel (bl_alloc (Below.refl _ _) (.cells #[.int .i64 X, .int .i64 Y, .int .i64 z] 68)))
              have HP3 := Lib.hid P3
              have hwz : w.heap.size + 1 ≤ wr.heap.size := P3.lt
              clear hl3 hX hY ho hcok own3 P3
              cases hb : hasBit o x y
              · rw [hb] at hs3
                have HS3 := Lib.hid (show l2 ++ tC3 x y dx dy (z + 1) = l3 by rw [hs3]; simp)
                have HB := Lib.hid hb
                clear hs3 hb
                go_wp2_with (first | (go_at_call 41; refine (CornerCells_i X Y z _).mono ?_; rintro e wn ⟨v, rfl, o1, hbn⟩; have hSz := bl_sz (bl_trans hB (by go_grown)) hbn; replace hB := bl_trans (bl_trans hB (by go_grown)) hbn; replace P := P.bel (bl_trans (by go_grown) hbn); replace Pc := P.c2; replace Q := Q.bel (bl_trans (by go_grown) hbn); replace Qc := Q.c3; obtain ⟨⟨A2, c2', rfl⟩, _⟩ := id o1; have O1 := Lib.hid o1.rd; clear o1; replace Own3 := Lib.hid (Own3.out.bel hbn); clear hbn) | (go_at_call 122; refine (setOf_any A2 c2' (cornerCells X Y z) _ hcl O1.out Hcok.out).mono ?_; rintro e wn ⟨rfl, hbn⟩; have hSz := bl_sz (bl_trans hB (by go_grown)) hbn; replace hB := bl_trans (bl_trans hB (by go_grown)) hbn; replace P := P.bel (bl_trans (by go_grown) hbn); replace Pc := P.c2; replace Q := Q.bel (bl_trans (by go_grown) hbn); replace Qc := Q.c3; rw [Ho.out]; replace Own3 := Lib.hid (Own3.out.bel hbn); clear hbn) | (go_at_call 126; refine (has_any o x y _ hol).mono ?_; rintro e wn ⟨rfl, hbn⟩; have hSz := bl_sz (bl_trans hB (by go_grown)) hbn; replace hB := bl_trans (bl_trans hB (by go_grown)) hbn; replace P := P.bel (bl_trans (by go_grown) hbn); replace Pc := P.c2; replace Q := Q.bel (bl_trans (by go_grown) hbn); replace Qc := Q.c3; rw [HB.out]; replace Own3 := Lib.hid (Own3.out.bel hbn); clear hbn))
                go_roundw
                case rel => exact ⟨z + 1, by omega, by go_num, by rw [HS3.out]; exact Own3.out, P, hB⟩
                case measure => simp [intOf]; omega
              · rw [hb] at hs3
                have HS3 := Lib.hid (show l2 ++ tC3 x y dx dy (z + 1) = l3 ++ [o] by rw [hs3]; simp)
                have HB := Lib.hid hb
                clear hs3 hb
                go_wp2_with (first | (go_at_call 41; refine (CornerCells_i X Y z _).mono ?_; rintro e wn ⟨v, rfl, o1, hbn⟩; have hSz := bl_sz (bl_trans hB (by go_grown)) hbn; replace hB := bl_trans (bl_trans hB (by go_grown)) hbn; replace P := P.bel (bl_trans (by go_grown) hbn); replace Pc := P.c2; replace Q := Q.bel (bl_trans (by go_grown) hbn); replace Qc := Q.c3; obtain ⟨⟨A2, c2', rfl⟩, _⟩ := id o1; have O1 := Lib.hid o1.rd; clear o1; replace Own3 := Lib.hid (Own3.out.bel hbn); clear hbn) | (go_at_call 122; refine (setOf_any A2 c2' (cornerCells X Y z) _ hcl O1.out Hcok.out).mono ?_; rintro e wn ⟨rfl, hbn⟩; have hSz := bl_sz (bl_trans hB (by go_grown)) hbn; replace hB := bl_trans (bl_trans hB (by go_grown)) hbn; replace P := P.bel (bl_trans (by go_grown) hbn); replace Pc := P.c2; replace Q := Q.bel (bl_trans (by go_grown) hbn); replace Qc := Q.c3; rw [Ho.out]; replace Own3 := Lib.hid (Own3.out.bel hbn); clear hbn) | (go_at_call 126; refine (has_any o x y _ hol).mono ?_; rintro e wn ⟨rfl, hbn⟩; have hSz := bl_sz (bl_trans hB (by go_grown)) hbn; replace hB := bl_trans (bl_trans hB (by go_grown)) hbn; replace P := P.bel (bl_trans (by go_grown) hbn); replace Pc := P.c2; replace Q := Q.bel (bl_trans (by go_grown) hbn); replace Qc := Q.c3; rw [HB.out]; replace Own3 := Lib.hid (Own3.out.bel hbn); clear hbn) | (at_builtin; refine wpList_appU rfl (.tmp 37) (.tmp 39) rfl (w.heap.size + 1) _ l3 o rfl rfl Own3.out P.lt hl3n hol ?_; intro v1 w1 o1 b1 g1; go_must (have P4 := Lib.hid (P.below (b1 _ (Below.refl _ _)) (Nat.lt_succ_self _)); have O4 := Lib.hid o1; have HB4 := Lib.hid (hB.trans ((b1 _ (Below.refl _ _)).mono (Nat.le_succ _))); clear o1 b1 g1)))
                go_roundw
                case rel => exact ⟨z + 1, by omega, by go_num, by rw [HS3.out]; exact O4.out, P4.out, HB4.out⟩
                case measure => simp [intOf]; omega
            · obtain rfl : z = 4 := by omega
              go_wp2_with fail
              go_roundw
              case rel => exact ⟨j + 1, by omega, by have := HDY.out; rw [show ((j + 1 : Nat) : Int) - 1 = dy + 1 by omega], by rw [hs2.out]; exact own3, P3, hB3⟩
              case measure => have := HDY.out; simp [intOf]; omega
        · obtain rfl : j = 2 := by omega
          have e0 : decide (((2 : Nat) : Int) - 1 ≤ 0) = false := by decide
          go_wp2_with fail
          go_roundw
          case rel => exact ⟨i + 1, by omega, by have := HDX.out; rw [show ((i + 1 : Nat) : Int) - 1 = dx + 1 by omega], by rw [hs1.out]; exact own2, P2, hB2⟩
          case measure => have := HDX.out; simp [intOf]; omega
    · obtain rfl : i = 2 := by omega
      have d0 : decide (((2 : Nat) : Int) - 1 ≤ 0) = false := by decide
      go_wp2_with fail
      go_ret
      exact ⟨_, rfl, by rw [HT.out]; exact own.mono (Nat.le_succ _), hB1⟩
theorem tilesC_ok (w0 : World) : TilesOk 125 #[] tilesC w0 :=
  ⟨enters_ Try.func125 (by kernel_rfl) rfl, fun i w hi _ => by simpa using tilesC_any i w hi, fun i _ => ⟨by have := tC1_len (cellOf i).1 (cellOf i).2 2; unfold tilesC; omega, fun o ho => hasBit_ne (tC1_ne _ _ 2 o ho)⟩⟩
def countCorners (rs : List Int) : Int := if regOk rs && decide ((regCells rs).length ≤ 18) then wrap64 (covs tilesC 64 (regSet rs)) else 0
theorem countCorners_no1 {rs : List Int} (h : regOk rs = false) : countCorners rs = 0 := by simp [countCorners, h]
theorem countCorners_no2 {rs : List Int} (h : ¬ (regCells rs).length ≤ 18) : countCorners rs = 0 := by simp [countCorners, h]
theorem countCorners_yes {rs : List Int} (h1 : regOk rs = true) (h : (regCells rs).length ≤ 18) : countCorners rs = wrap64 (covs tilesC 64 (regSet rs)) := by simp [countCorners, h, h1]
set_option maxHeartbeats 1000000 in
theorem CountCorners_i (A : Option Addr) (c : Nat) (rs : List Int) (w : World) (hl : rs.length ≤ 1048576) (hr : RdI w A rs) :
    Calls Try.prog 43 #[.agg #[.slice A rs.length c]] w fun e w' => e = .returned (.int .i64 (countCorners rs)) ∧ Below w.heap.size w w' := by
  (have hB := Below.refl w.heap.size w; have P := Blk.new w 31 [.slice A rs.length c]; have Pc := P.c1)
  have hr' := Lib.hid hr
  clear hr
  cases h : regOk rs
  · have H := Lib.hid (countCorners_no1 h)
    have H1 := Lib.hid h
    clear h
    go_enter Try.func43, Try.ntmps43
    go_wp2_with (go_at_call 98; refine (RegionOk_i A c rs _ hl (hr'.out.below (bl_trans hB (by go_grown)))).mono ?_; rintro e wn ⟨rfl, hbn⟩; have hSz := bl_sz (bl_trans hB (by go_grown)) hbn; replace hB := bl_trans (bl_trans hB (by go_grown)) hbn; replace P := P.bel (bl_trans (by go_grown) hbn); replace Pc := P.c1; rw [H1.out]; clear hbn)
    go_ret
    exact ⟨ret_int H.out.symm, (by first | (go_grown; done) | exact bl_trans hB (by go_grown))⟩
  · have hRl := regSet_lt h
    have hcl := regCells_len rs
    obtain ⟨L, hL⟩ : ∃ L, L = (regCells rs).length := ⟨_, rfl⟩
    have HL := Lib.hid hL
    have H1 := Lib.hid h
    rw [← hL] at hcl
    clear h
    by_cases h18 : L ≤ 18
    · have H := Lib.hid (countCorners_yes H1.out (by rw [← hL]; exact h18))
      have d1 : decide ((18 : Int) < (L : Int)) = false := decide_eq_false (by omega)
      clear hL
      go_enter Try.func43, Try.ntmps43
      go_wp2_with (first | (go_at_call 98; refine (RegionOk_i A c rs _ hl (hr'.out.below (bl_trans hB (by go_grown)))).mono ?_; rintro e wn ⟨rfl, hbn⟩; have hSz := bl_sz (bl_trans hB (by go_grown)) hbn; replace hB := bl_trans (bl_trans hB (by go_grown)) hbn; replace P := P.bel (bl_trans (by go_grown) hbn); replace Pc := P.c1; rw [H1.out]; clear hbn) | (go_at_call 123; refine (CountCells_i A c rs _ hl (hr'.out.below (bl_trans hB (by go_grown)))).mono ?_; rintro e wn ⟨rfl, hbn⟩; have hSz := bl_sz (bl_trans hB (by go_grown)) hbn; replace hB := bl_trans (bl_trans hB (by go_grown)) hbn; replace P := P.bel (bl_trans (by go_grown) hbn); replace Pc := P.c1; rw [← HL.out]; clear hbn) | (go_at_call 121; refine (rset_any A c rs _ H1.out (hr'.out.below (bl_trans hB (by go_grown)))).mono ?_; rintro e wn ⟨rfl, hbn⟩; have hSz := bl_sz (bl_trans hB (by go_grown)) hbn; replace hB := bl_trans (bl_trans hB (by go_grown)) hbn; replace P := P.bel (bl_trans (by go_grown) hbn); replace Pc := P.c1; clear hbn) | (go_at_call 124; refine (coverings_any 125 #[] tilesC w (tilesC_ok w) 64 (regSet rs) _ (bl_trans hB (by go_grown)) hRl (card_le _)).mono ?_; rintro e wn ⟨rfl, hbn⟩; have hSz := bl_sz (bl_trans hB (by go_grown)) hbn; replace hB := bl_trans (bl_trans hB (by go_grown)) hbn; replace P := P.bel (bl_trans (by go_grown) hbn); replace Pc := P.c1; clear hbn))
      go_ret
      exact ⟨ret_int H.out.symm, (by first | (go_grown; done) | exact bl_trans hB (by go_grown))⟩
    · have H := Lib.hid (countCorners_no2 (rs := rs) (by rw [← hL]; exact h18))
      have d1 : decide ((18 : Int) < (L : Int)) = true := decide_eq_true (by omega)
      clear hL
      go_enter Try.func43, Try.ntmps43
      go_wp2_with (first | (go_at_call 98; refine (RegionOk_i A c rs _ hl (hr'.out.below (bl_trans hB (by go_grown)))).mono ?_; rintro e wn ⟨rfl, hbn⟩; have hSz := bl_sz (bl_trans hB (by go_grown)) hbn; replace hB := bl_trans (bl_trans hB (by go_grown)) hbn; replace P := P.bel (bl_trans (by go_grown) hbn); replace Pc := P.c1; rw [H1.out]; clear hbn) | (go_at_call 123; refine (CountCells_i A c rs _ hl (hr'.out.below (bl_trans hB (by go_grown)))).mono ?_; rintro e wn ⟨rfl, hbn⟩; have hSz := bl_sz (bl_trans hB (by go_grown)) hbn; replace hB := bl_trans (bl_trans hB (by go_grown)) hbn; replace P := P.bel (bl_trans (by go_grown) hbn); replace Pc := P.c1; rw [← HL.out]; clear hbn))
      go_ret
      exact ⟨ret_int H.out.symm, (by first | (go_grown; done) | exact bl_trans hB (by go_grown))⟩
/-! ### the order of the reference -/
def cCon (g : Nat → Int) (s : Nat) (x y : Int) (k z : Nat) : Int :=
  if hasBit (cOwn (x - ((k % 2 : Nat) : Int), y - ((k / 2 : Nat) : Int), (z : Int))) x y then (if s &&& cOwn (x - ((k % 2 : Nat) : Int), y - ((k / 2 : Nat) : Int), (z : Int)) == cOwn (x - ((k % 2 : Nat) : Int), y - ((k / 2 : Nat) : Int), (z : Int)) then g (cOwn (x - ((k % 2 : Nat) : Int), y - ((k / 2 : Nat) : Int), (z : Int))) else 0) else 0
def cSum3 (g : Nat → Int) (s : Nat) (x y : Int) (k : Nat) : Nat → Int
  | 0 => 0
  | z + 1 => cSum3 g s x y k z + cCon g s x y k z
def cSum2 (g : Nat → Int) (s : Nat) (x y : Int) : Nat → Int
  | 0 => 0
  | k + 1 => cSum2 g s x y k + cSum3 g s x y k 4
theorem covSum_tC3 (g : Nat → Int) (s : Nat) (x y dx dy : Int) (k : Nat) (h1 : dx = -((k % 2 : Nat) : Int)) (h2 : dy = -((k / 2 : Nat) : Int)) : ∀ z, covSum g s (tC3 x y dx dy z) = cSum3 g s x y k z := by
  intro z
  induction z with
  | zero => rfl
  | succ z ih =>
    rw [tC3, covSum_app, ih, cSum3, cCon]
    subst h1; subst h2
    rw [← Int.sub_eq_add_neg, ← Int.sub_eq_add_neg]
    cases hasBit (cOwn (x - ((k % 2 : Nat) : Int), y - ((k / 2 : Nat) : Int), (z : Int))) x y
    · simp [covSum_nil]
    · simp [covSum_one]
theorem cSum_eq (g : Nat → Int) (s : Nat) (x y : Int) : cSum2 g s x y 4 = covSum g s (tC1 x y 2) := by
  have e0 := covSum_tC3 g s x y 0 0 0 (by simp) (by simp) 4
  have e1 := covSum_tC3 g s x y (-1) 0 1 (by simp) (by simp) 4
  have e2 := covSum_tC3 g s x y 0 (-1) 2 (by simp) (by simp) 4
  have e3 := covSum_tC3 g s x y (-1) (-1) 3 (by simp) (by simp) 4
  simp only [cSum2, tC1, tC2, covSum_app, covSum_nil]
  simp only [Int.natCast_zero, Int.natCast_one, Int.zero_sub, Int.sub_self]
  rw [e0, e1, e2, e3]
  omega
theorem corner_has {x y : Int} (hc : cellOk x y = true) {k z : Nat} (hk : k < 4) (hz : z < 4) : hasBit (cOwn (x - ((k % 2 : Nat) : Int), y - ((k / 2 : Nat) : Int), (z : Int))) x y = (cornerOk (x - ((k % 2 : Nat) : Int)) (y - ((k / 2 : Nat) : Int)) (z : Int) && !(z == k)) := by
  have hcc := cellOk_iff.1 hc
  unfold hasBit cOwn
  dsimp only
  rw [hc, Bool.true_and]
  show (setL _).testBit (idxN (x, y)) = _
  rw [setL_bit]
  cases h : cornerOk (x - ((k % 2 : Nat) : Int)) (y - ((k / 2 : Nat) : Int)) (z : Int)
  · rw [cornerCells, if_neg (by rw [h]; simp)]; simp
  · have hq := cornerOk_iff.1 h
    rw [Bool.true_and, Bool.eq_iff_iff, decide_eq_true_eq, cornerCells, if_pos h, ccUpto]
    simp only [List.mem_map, List.mem_filter, List.mem_range, decide_eq_true_eq]
    constructor
    · rintro ⟨d, ⟨j, ⟨hj, hjz⟩, rfl⟩, e⟩
      unfold idxN at e
      dsimp only at e
      simp only [Bool.not_eq_true', beq_eq_false_iff_ne]
      omega
    · intro e
      simp only [Bool.not_eq_true', beq_eq_false_iff_ne] at e
      refine ⟨_, ⟨k, ⟨hk, by omega⟩, rfl⟩, ?_⟩
      unfold idxN
      dsimp only
      omega
end Go.Proofs.Ytdcjhfmkkcakhaa

/-
  The corner tiles over a cell (a plain model), and the contracts of CountCorners (both): what each returns, as a function of its arguments; nothing that was there is written; no condition.
-/
import Derived.Test.YtoehmocamaamcaaCov
import Derived.Test.YtoehmocamaamcaaCovM
import Derived.Deep.CutRange
import Derived.Deep.CutBlock
import Derived.Deep.DeepMust
namespace Go.Proofs.Ytoehmocamaamcaa
open Go.ChangeShapes Go.WideShapes Go.ChangeAt Go.RowKit Go.Deep
set_option linter.unusedVariables false

def tC3 (x y dx dy : Int) : Nat → List Nat
  | 0 => []
  | z + 1 => tC3 x y dx dy z ++ if hasBit (cOwn (x + dx, y + dy, (z : Int))) x y then [cOwn (x + dx, y + dy, (z : Int))] else []
def tC2 (x y dx : Int) : Nat → List Nat
  | 0 => []
  | j + 1 => tC2 x y dx j ++ tC3 x y dx ((j : Int) - 1) 4
def tC1 (x y : Int) : Nat → List Nat
  | 0 => []
  | i + 1 => tC1 x y i ++ tC2 x y ((i : Int) - 1) 2
def tilesC (q : Nat) : List Nat := tC1 (cellOf q).1 (cellOf q).2 2
theorem tC3_len (x y dx dy : Int) : ∀ z, (tC3 x y dx dy z).length ≤ z
  | 0 => by simp [tC3]
  | z + 1 => by have := tC3_len x y dx dy z; rw [tC3, List.length_append]; split <;> simp <;> omega
theorem tC2_len (x y dx : Int) : ∀ j, (tC2 x y dx j).length ≤ 4 * j
  | 0 => by simp [tC2]
  | j + 1 => by have := tC2_len x y dx j; have := tC3_len x y dx ((j : Int) - 1) 4; rw [tC2, List.length_append]; omega
theorem tC1_len (x y : Int) : ∀ i, (tC1 x y i).length ≤ 8 * i
  | 0 => by simp [tC1]
  | i + 1 => by have := tC1_len x y i; have := tC2_len x y ((i : Int) - 1) 2; rw [tC1, List.length_append]; omega
theorem hasBit_ne {o : Nat} {x y : Int} (h : hasBit o x y = true) : o ≠ 0 := by
  rintro rfl; simp [hasBit] at h
theorem tC3_ne (x y dx dy : Int) : ∀ z, ∀ o ∈ tC3 x y dx dy z, hasBit o x y = true
  | 0 => by simp [tC3]
  | z + 1 => fun o ho => by
    rw [tC3, List.mem_append] at ho
    rcases ho with ho | ho
    · exact tC3_ne x y dx dy z o ho
    · split at ho
      · rename_i h; simp at ho; rw [ho]; exact h
      · simp at ho
theorem tC2_ne (x y dx : Int) : ∀ j, ∀ o ∈ tC2 x y dx j, hasBit o x y = true
  | 0 => by simp [tC2]
  | j + 1 => fun o ho => by
    rw [tC2, List.mem_append] at ho
    rcases ho with ho | ho
    · exact tC2_ne x y dx j o ho
    · exact tC3_ne _ _ _ _ _ o ho
theorem tC1_ne (x y : Int) : ∀ i, ∀ o ∈ tC1 x y i, hasBit o x y = true
  | 0 => by simp [tC1]
  | i + 1 => fun o ho => by
    rw [tC1, List.mem_append] at ho
    rcases ho with ho | ho
    · exact tC1_ne x y i o ho
    · exact tC2_ne _ _ _ _ o ho
set_option maxRecDepth 100000 in
set_option maxHeartbeats 2000000 in
theorem tilesC_any (q : Nat) (w : World) (hq : q < 64) :
    Calls Try.prog 60 #[.agg #[.int .i64 (cellOf q).1, .int .i64 (cellOf q).2]] w fun e w' => ∃ v, e = .returned v ∧ OwU w.heap.size w' v (tilesC q) ∧ Below w.heap.size w w' := by
  have ht : tilesC q = tC1 (cellOf q).1 (cellOf q).2 2 := rfl
  have hr := cellOk_iff.1 (cellOf_ok q hq)
  obtain ⟨x, hx⟩ : ∃ x, x = (cellOf q).1 := ⟨_, rfl⟩
  obtain ⟨y, hy⟩ : ∃ y, y = (cellOf q).2 := ⟨_, rfl⟩
  rw [← hx, ← hy] at ht hr ⊢
  have HT := Lib.hid ht
  clear ht hx hy
  have hB := bl_alloc (bl_alloc (Below.refl w.heap.size w) (.cells #[.int .i64 x, .int .i64 y] 62)) (.cells #[] 58)
  have P := (Blk.new w 62 [.int .i64 x, .int .i64 y]).alloc (.cells #[] 58)
  have O := Lib.hid (OwU.new_ (B := w.heap.size + 1) (w := w.alloc (.cells #[.int .i64 x, .int .i64 y] 62)) (by simp))
  rw [World.size_alloc] at O
  go_enter Try.func60, Try.ntmps60
  go_wp2
  go_loopw [3, 4] (fun v d wr => ∃ i : Nat, i ≤ 2 ∧ d = .int .i64 ((i : Int) - 1) ∧ OwU (w.heap.size + 1) wr v (tC1 x y i) ∧ Blk wr w.heap.size 62 [.int .i64 x, .int .i64 y] ∧ Below w.heap.size w wr) (fun _ d _ => (1 - intOf d).toNat)
  case atStart => exact ⟨0, by omega, rfl, O.out, P, hB⟩
  case round =>
    obtain ⟨i, hi, rfl, own, P1, hB1⟩ := hrel
    clear P O hB
    by_cases hi2 : i < 2
    · have d0 : decide ((i : Int) - 1 ≤ 0) = true := decide_eq_true (by omega)
      have hs1 := Lib.hid (show tC1 x y (i + 1) = tC1 x y i ++ tC2 x y ((i : Int) - 1) 2 from rfl)
      obtain ⟨l1, hl1⟩ : ∃ l1, l1 = tC1 x y i := ⟨_, rfl⟩
      have hl1n := tC1_len x y i
      rw [← hl1] at own hl1n hs1
      obtain ⟨dx, hdx⟩ : ∃ dx : Int, dx = (i : Int) - 1 := ⟨_, rfl⟩
      rw [← hdx] at d0 hs1 ⊢
      have HDX := Lib.hid hdx
      have hdr : -1 ≤ dx ∧ dx ≤ 0 := by omega
      clear hl1 hdx
      obtain ⟨wa, rfl⟩ : ∃ wa : World, wa = wr := ⟨_, rfl⟩
      go_wp2_with fail
      go_loopw [3, 5] (fun v d wr => ∃ j : Nat, j ≤ 2 ∧ d = .int .i64 ((j : Int) - 1) ∧ OwU (w.heap.size + 1) wr v (l1 ++ tC2 x y dx j) ∧ Blk wr w.heap.size 62 [.int .i64 x, .int .i64 y] ∧ Below w.heap.size w wr) (fun _ d _ => (1 - intOf d).toNat)
      case atStart => exact ⟨0, by omega, rfl, by simpa [tC2] using own, P1, hB1⟩
      case round =>
        obtain ⟨j, hj, rfl, own2, P2, hB2⟩ := hrel
        clear own P1 hB1
        by_cases hj2 : j < 2
        · have e0 : decide ((j : Int) - 1 ≤ 0) = true := decide_eq_true (by omega)
          have hs2 := Lib.hid (show l1 ++ tC2 x y dx (j + 1) = (l1 ++ tC2 x y dx j) ++ tC3 x y dx ((j : Int) - 1) 4 by rw [tC2, List.append_assoc])
          obtain ⟨l2, hl2⟩ : ∃ l2, l2 = l1 ++ tC2 x y dx j := ⟨_, rfl⟩
          have hl2n : l2.length ≤ 100 := by rw [hl2, List.length_append]; have := tC2_len x y dx j; omega
          rw [← hl2] at own2 hs2
          obtain ⟨dy, hdy⟩ : ∃ dy : Int, dy = (j : Int) - 1 := ⟨_, rfl⟩
          rw [← hdy] at e0 hs2 ⊢
          have HDY := Lib.hid hdy
          have her : -1 ≤ dy ∧ dy ≤ 0 := by omega
          clear hl2 hdy
          obtain ⟨wb, rfl⟩ : ∃ wb : World, wb = wr := ⟨_, rfl⟩
          go_wp2_with fail
          go_loopw [3, 18] (fun v d wr => ∃ z : Nat, z ≤ 4 ∧ d = .int .i64 z ∧ OwU (w.heap.size + 1) wr v (l2 ++ tC3 x y dx dy z) ∧ Blk wr w.heap.size 62 [.int .i64 x, .int .i64 y] ∧ Below w.heap.size w wr) (fun _ d _ => 4 - (intOf d).toNat)
          case atStart => exact ⟨0, by omega, rfl, by simpa [tC3] using own2, P2, hB2⟩
          case round =>
            obtain ⟨z, hz, rfl, own3, P3, hB3⟩ := hrel
            clear own2 P2 hB2
            by_cases hz4 : z < 4
            · have f0 : decide ((z : Int) < 4) = true := decide_eq_true (by omega)
              have hs3 : l2 ++ tC3 x y dx dy (z + 1) = (l2 ++ tC3 x y dx dy z) ++ if hasBit (cOwn (x + dx, y + dy, (z : Int))) x y then [cOwn (x + dx, y + dy, (z : Int))] else [] := by rw [tC3, List.append_assoc]
              obtain ⟨l3, hl3⟩ : ∃ l3, l3 = l2 ++ tC3 x y dx dy z := ⟨_, rfl⟩
              have hl3n : l3.length ≤ 1048576 := by rw [hl3, List.length_append]; have := tC3_len x y dx dy z; omega
              rw [← hl3] at own3 hs3
              obtain ⟨X, hX⟩ : ∃ X, X = x + dx := ⟨_, rfl⟩
              obtain ⟨Y, hY⟩ : ∃ Y, Y = y + dy := ⟨_, rfl⟩
              have hX1 : IntKind.i64.wrap (x + dx) = X := by rw [hX]; exact IntWalk.i64_in _ (by omega)
              have hY1 : IntKind.i64.wrap (y + dy) = Y := by rw [hY]; exact IntWalk.i64_in _ (by omega)
              rw [← hX, ← hY] at hs3
              have hX2 : x + dx = X := hX.symm
              have hY2 : y + dy = Y := hY.symm
              obtain ⟨o, ho⟩ : ∃ o, o = cOwn (X, Y, (z : Int)) := ⟨_, rfl⟩
              have hol := cOwn_lt (X, Y, (z : Int))
              have hcl : (cornerCells X Y z).length ≤ 1048576 := by unfold cornerCells; split; · have := ccUpto_len X Y z 4; omega
                                                                    · simp
              have hcok : ∀ c ∈ cornerCells X Y z, cellOk c.1 c.2 = true := by
                cases h : cornerOk X Y z
                · simp [cornerCells, h]
                · exact (corner_cells h).1
              have Hcok := Lib.hid hcok
              rw [← ho] at hs3 hol
              have Ho := Lib.hid (show setL (cornerCells X Y z) = o from ho.symm)
              have P := P3.alloc (.cells #[.int .i64 X, .int .i64 Y, .int .i64 z] 84)
              have Pc := P.c2
              have Q := Blk.new wr 84 [.int .i64 X, .int .i64 Y, .int .i64 z]
              have Qc := Q.c3
              have hB := bl_alloc hB3 (.cells #[.int .i64 X, .int .i64 Y, .int .i64 z] 84)
              have hP3c := P3.c2
              have Own3 := Lib.hid (own3.bel (bl_alloc (Below.refl _ _) (.cells #[.int .i64 X, .int .i64 Y, .int .i64 z] 84)))
              have HP3 := Lib.hid P3
              have hwz : w.heap.size + 1 ≤ wr.heap.size := P3.lt
              clear hl3 hX hY ho hcok own3 P3
              cases hb : hasBit o x y
              · rw [hb] at hs3
                have HS3 := Lib.hid (show l2 ++ tC3 x y dx dy (z + 1) = l3 by rw [hs3]; simp)
                have HB := Lib.hid hb
                clear hs3 hb
                go_wp2_with (first | (go_at_call 61; refine (CornerCells_i X Y z _).mono ?_; rintro e wn ⟨v, rfl, o1, hbn⟩; have hSz := bl_sz (bl_trans hB (by go_grown)) hbn; replace hB := bl_trans (bl_trans hB (by go_grown)) hbn; replace P := P.bel (bl_trans (by go_grown) hbn); replace Pc := P.c2; replace Q := Q.bel (bl_trans (by go_grown) hbn); replace Qc := Q.c3; obtain ⟨⟨A2, c2', rfl⟩, _⟩ := id o1; have O1 := Lib.hid o1.rd; clear o1; replace Own3 := Lib.hid (Own3.out.bel hbn); clear hbn) | (go_at_call 42; refine (setOf_any A2 c2' (cornerCells X Y z) _ hcl O1.out Hcok.out).mono ?_; rintro e wn ⟨rfl, hbn⟩; have hSz := bl_sz (bl_trans hB (by go_grown)) hbn; replace hB := bl_trans (bl_trans hB (by go_grown)) hbn; replace P := P.bel (bl_trans (by go_grown) hbn); replace Pc := P.c2; replace Q := Q.bel (bl_trans (by go_grown) hbn); replace Qc := Q.c3; rw [Ho.out]; replace Own3 := Lib.hid (Own3.out.bel hbn); clear hbn) | (go_at_call 62; refine (has_any o x y _ hol).mono ?_; rintro e wn ⟨rfl, hbn⟩; have hSz := bl_sz (bl_trans hB (by go_grown)) hbn; replace hB := bl_trans (bl_trans hB (by go_grown)) hbn; replace P := P.bel (bl_trans (by go_grown) hbn); replace Pc := P.c2; replace Q := Q.bel (bl_trans (by go_grown) hbn); replace Qc := Q.c3; rw [HB.out]; replace Own3 := Lib.hid (Own3.out.bel hbn); clear hbn))
                go_roundw
                case rel => exact ⟨z + 1, by omega, by go_num, by rw [HS3.out]; exact Own3.out, P, hB⟩
                case measure => simp [intOf]; omega
              · rw [hb] at hs3
                have HS3 := Lib.hid (show l2 ++ tC3 x y dx dy (z + 1) = l3 ++ [o] by rw [hs3]; simp)
                have HB := Lib.hid hb
                clear hs3 hb
                go_wp2_with (first | (go_at_call 61; refine (CornerCells_i X Y z _).mono ?_; rintro e wn ⟨v, rfl, o1, hbn⟩; have hSz := bl_sz (bl_trans hB (by go_grown)) hbn; replace hB := bl_trans (bl_trans hB (by go_grown)) hbn; replace P := P.bel (bl_trans (by go_grown) hbn); replace Pc := P.c2; replace Q := Q.bel (bl_trans (by go_grown) hbn); replace Qc := Q.c3; obtain ⟨⟨A2, c2', rfl⟩, _⟩ := id o1; have O1 := Lib.hid o1.rd; clear o1; replace Own3 := Lib.hid (Own3.out.bel hbn); clear hbn) | (go_at_call 42; refine (setOf_any A2 c2' (cornerCells X Y z) _ hcl O1.out Hcok.out).mono ?_; rintro e wn ⟨rfl, hbn⟩; have hSz := bl_sz (bl_trans hB (by go_grown)) hbn; replace hB := bl_trans (bl_trans hB (by go_grown)) hbn; replace P := P.bel (bl_trans (by go_grown) hbn); replace Pc := P.c2; replace Q := Q.bel (bl_trans (by go_grown) hbn); replace Qc := Q.c3; rw [Ho.out]; replace Own3 := Lib.hid (Own3.out.bel hbn); clear hbn) | (go_at_call 62; refine (has_any o x y _ hol).mono ?_; rintro e wn ⟨rfl, hbn⟩; have hSz := bl_sz (bl_trans hB (by go_grown)) hbn; replace hB := bl_trans (bl_trans hB (by go_grown)) hbn; replace P := P.bel (bl_trans (by go_grown) hbn); replace Pc := P.c2; replace Q := Q.bel (bl_trans (by go_grown) hbn); replace Qc := Q.c3; rw [HB.out]; replace Own3 := Lib.hid (Own3.out.bel hbn); clear hbn) | (at_builtin; refine wpList_appU rfl (.tmp 37) (.tmp 39) rfl (w.heap.size + 1) _ l3 o rfl rfl Own3.out P.lt hl3n hol ?_; intro v1 w1 o1 b1 g1; go_must (have P4 := Lib.hid (P.below (b1 _ (Below.refl _ _)) (Nat.lt_succ_self _)); have O4 := Lib.hid o1; have HB4 := Lib.hid (hB.trans ((b1 _ (Below.refl _ _)).mono (Nat.le_succ _))); clear o1 b1 g1)))
                go_roundw
                case rel => exact ⟨z + 1, by omega, by go_num, by rw [HS3.out]; exact O4.out, P4.out, HB4.out⟩
                case measure => simp [intOf]; omega
            · obtain rfl : z = 4 := by omega
              go_wp2_with fail
              go_roundw
              case rel => exact ⟨j + 1, by omega, by have := HDY.out; rw [show ((j + 1 : Nat) : Int) - 1 = dy + 1 by omega], by rw [hs2.out]; exact own3, P3, hB3⟩
              case measure => have := HDY.out; simp [intOf]; omega
        · obtain rfl : j = 2 := by omega
          have e0 : decide (((2 : Nat) : Int) - 1 ≤ 0) = false := by decide
          go_wp2_with fail
          go_roundw
          case rel => exact ⟨i + 1, by omega, by have := HDX.out; rw [show ((i + 1 : Nat) : Int) - 1 = dx + 1 by omega], by rw [hs1.out]; exact own2, P2, hB2⟩
          case measure => have := HDX.out; simp [intOf]; omega
    · obtain rfl : i = 2 := by omega
      have d0 : decide (((2 : Nat) : Int) - 1 ≤ 0) = false := by decide
      go_wp2_with fail
      go_ret
      exact ⟨_, rfl, by rw [HT.out]; exact own.mono (Nat.le_succ _), hB1⟩
theorem tilesC_ok (w0 : World) : TilesOk 60 #[] tilesC w0 :=
  ⟨enters_ Try.func60 (by kernel_rfl) rfl, fun i w hi _ => by simpa using tilesC_any i w hi, fun i _ => ⟨by have := tC1_len (cellOf i).1 (cellOf i).2 2; unfold tilesC; omega, fun o ho => hasBit_ne (tC1_ne _ _ 2 o ho)⟩⟩
theorem card_le (s : Nat) : card s ≤ 64 := by unfold card; exact Nat.le_trans (List.length_filter_le _ _) (by simp)
def countCorners (rs : List Int) : Int := if regOk rs && decide ((regCells rs).length ≤ 18) then wrap64 (covs tilesC 64 (regSet rs)) else 0
theorem countCorners_no1 {rs : List Int} (h : regOk rs = false) : countCorners rs = 0 := by simp [countCorners, h]
theorem countCorners_no2 {rs : List Int} (h : ¬ (regCells rs).length ≤ 18) : countCorners rs = 0 := by simp [countCorners, h]
theorem countCorners_yes {rs : List Int} (h1 : regOk rs = true) (h : (regCells rs).length ≤ 18) : countCorners rs = wrap64 (covs tilesC 64 (regSet rs)) := by simp [countCorners, h, h1]
set_option maxHeartbeats 1000000 in
theorem CountCorners_i (A : Option Addr) (c : Nat) (rs : List Int) (w : World) (hl : rs.length ≤ 1048576) (hr : RdI w A rs) :
    Calls Try.prog 19 #[.agg #[.slice A rs.length c]] w fun e w' => e = .returned (.int .i64 (countCorners rs)) ∧ Below w.heap.size w w' := by
  (have hB := Below.refl w.heap.size w; have P := Blk.new w 34 [.slice A rs.length c]; have Pc := P.c1)
  have hr' := Lib.hid hr
  clear hr
  cases h : regOk rs
  · have H := Lib.hid (countCorners_no1 h)
    have H1 := Lib.hid h
    clear h
    go_enter Try.func19, Try.ntmps19
    go_wp2_with (go_at_call 58; refine (RegionOk_i A c rs _ hl (hr'.out.below (bl_trans hB (by go_grown)))).mono ?_; rintro e wn ⟨rfl, hbn⟩; have hSz := bl_sz (bl_trans hB (by go_grown)) hbn; replace hB := bl_trans (bl_trans hB (by go_grown)) hbn; replace P := P.bel (bl_trans (by go_grown) hbn); replace Pc := P.c1; rw [H1.out]; clear hbn)
    go_ret
    exact ⟨ret_int H.out.symm, (by first | (go_grown; done) | exact bl_trans hB (by go_grown))⟩
  · have hRl := regSet_lt h
    have hcl := regCells_len rs
    obtain ⟨L, hL⟩ : ∃ L, L = (regCells rs).length := ⟨_, rfl⟩
    have HL := Lib.hid hL
    have H1 := Lib.hid h
    rw [← hL] at hcl
    clear h
    by_cases h18 : L ≤ 18
    · have H := Lib.hid (countCorners_yes H1.out (by rw [← hL]; exact h18))
      have d1 : decide ((18 : Int) < (L : Int)) = false := decide_eq_false (by omega)
      clear hL
      go_enter Try.func19, Try.ntmps19
      go_wp2_with (first | (go_at_call 58; refine (RegionOk_i A c rs _ hl (hr'.out.below (bl_trans hB (by go_grown)))).mono ?_; rintro e wn ⟨rfl, hbn⟩; have hSz := bl_sz (bl_trans hB (by go_grown)) hbn; replace hB := bl_trans (bl_trans hB (by go_grown)) hbn; replace P := P.bel (bl_trans (by go_grown) hbn); replace Pc := P.c1; rw [H1.out]; clear hbn) | (go_at_call 59; refine (CountCells_i A c rs _ hl (hr'.out.below (bl_trans hB (by go_grown)))).mono ?_; rintro e wn ⟨rfl, hbn⟩; have hSz := bl_sz (bl_trans hB (by go_grown)) hbn; replace hB := bl_trans (bl_trans hB (by go_grown)) hbn; replace P := P.bel (bl_trans (by go_grown) hbn); replace Pc := P.c1; rw [← HL.out]; clear hbn) | (go_at_call 39; refine (rset_any A c rs _ H1.out (hr'.out.below (bl_trans hB (by go_grown)))).mono ?_; rintro e wn ⟨rfl, hbn⟩; have hSz := bl_sz (bl_trans hB (by go_grown)) hbn; replace hB := bl_trans (bl_trans hB (by go_grown)) hbn; replace P := P.bel (bl_trans (by go_grown) hbn); replace Pc := P.c1; clear hbn) | (go_at_call 37; refine (coverings_any 60 #[] tilesC w (tilesC_ok w) 64 (regSet rs) _ (bl_trans hB (by go_grown)) hRl (card_le _)).mono ?_; rintro e wn ⟨rfl, hbn⟩; have hSz := bl_sz (bl_trans hB (by go_grown)) hbn; replace hB := bl_trans (bl_trans hB (by go_grown)) hbn; replace P := P.bel (bl_trans (by go_grown) hbn); replace Pc := P.c1; clear hbn))
      go_ret
      exact ⟨ret_int H.out.symm, (by first | (go_grown; done) | exact bl_trans hB (by go_grown))⟩
    · have H := Lib.hid (countCorners_no2 (rs := rs) (by rw [← hL]; exact h18))
      have d1 : decide ((18 : Int) < (L : Int)) = true := decide_eq_true (by omega)
      clear hL
      go_enter Try.func19, Try.ntmps19
      go_wp2_with (first | (go_at_call 58; refine (RegionOk_i A c rs _ hl (hr'.out.below (bl_trans hB (by go_grown)))).mono ?_; rintro e wn ⟨rfl, hbn⟩; have hSz := bl_sz (bl_trans hB (by go_grown)) hbn; replace hB := bl_trans (bl_trans hB (by go_grown)) hbn; replace P := P.bel (bl_trans (by go_grown) hbn); replace Pc := P.c1; rw [H1.out]; clear hbn) | (go_at_call 59; refine (CountCells_i A c rs _ hl (hr'.out.below (bl_trans hB (by go_grown)))).mono ?_; rintro e wn ⟨rfl, hbn⟩; have hSz := bl_sz (bl_trans hB (by go_grown)) hbn; replace hB := bl_trans (bl_trans hB (by go_grown)) hbn; replace P := P.bel (bl_trans (by go_grown) hbn); replace Pc := P.c1; rw [← HL.out]; clear hbn))
      go_ret
      exact ⟨ret_int H.out.symm, (by first | (go_grown; done) | exact bl_trans hB (by go_grown))⟩
/-! ### the order of the reference -/
def cCon (g : Nat → Int) (s : Nat) (x y : Int) (k z : Nat) : Int :=
  if hasBit (cOwn (x - ((k % 2 : Nat) : Int), y - ((k / 2 : Nat) : Int), (z : Int))) x y then (if s &&& cOwn (x - ((k % 2 : Nat) : Int), y - ((k / 2 : Nat) : Int), (z : Int)) == cOwn (x - ((k % 2 : Nat) : Int), y - ((k / 2 : Nat) : Int), (z : Int)) then g (cOwn (x - ((k % 2 : Nat) : Int), y - ((k / 2 : Nat) : Int), (z : Int))) else 0) else 0
def cSum3 (g : Nat → Int) (s : Nat) (x y : Int) (k : Nat) : Nat → Int
  | 0 => 0
  | z + 1 => cSum3 g s x y k z + cCon g s x y k z
def cSum2 (g : Nat → Int) (s : Nat) (x y : Int) : Nat → Int
  | 0 => 0
  | k + 1 => cSum2 g s x y k + cSum3 g s x y k 4
theorem covSum_tC3 (g : Nat → Int) (s : Nat) (x y dx dy : Int) (k : Nat) (h1 : dx = -((k % 2 : Nat) : Int)) (h2 : dy = -((k / 2 : Nat) : Int)) : ∀ z, covSum g s (tC3 x y dx dy z) = cSum3 g s x y k z := by
  intro z
  induction z with
  | zero => rfl
  | succ z ih =>
    rw [tC3, covSum_app, ih, cSum3, cCon]
    subst h1; subst h2
    rw [← Int.sub_eq_add_neg, ← Int.sub_eq_add_neg]
    cases hasBit (cOwn (x - ((k % 2 : Nat) : Int), y - ((k / 2 : Nat) : Int), (z : Int))) x y
    · simp [covSum_nil]
    · simp [covSum_one]
theorem cSum_eq (g : Nat → Int) (s : Nat) (x y : Int) : cSum2 g s x y 4 = covSum g s (tC1 x y 2) := by
  have e0 := covSum_tC3 g s x y 0 0 0 (by simp) (by simp) 4
  have e1 := covSum_tC3 g s x y (-1) 0 1 (by simp) (by simp) 4
  have e2 := covSum_tC3 g s x y 0 (-1) 2 (by simp) (by simp) 4
  have e3 := covSum_tC3 g s x y (-1) (-1) 3 (by simp) (by simp) 4
  simp only [cSum2, tC1, tC2, covSum_app, covSum_nil]
  simp only [Int.natCast_zero, Int.natCast_one, Int.zero_sub, Int.sub_self]
  rw [e0, e1, e2, e3]
  omega
theorem corner_has {x y : Int} (hc : cellOk x y = true) {k z : Nat} (hk : k < 4) (hz : z < 4) : hasBit (cOwn (x - ((k % 2 : Nat) : Int), y - ((k / 2 : Nat) : Int), (z : Int))) x y = (cornerOk (x - ((k % 2 : Nat) : Int)) (y - ((k / 2 : Nat) : Int)) (z : Int) && !(z == k)) := by
  have hcc := cellOk_iff.1 hc
  unfold hasBit cOwn
  dsimp only
  rw [hc, Bool.true_and]
  show (setL _).testBit (idxN (x, y)) = _
  rw [setL_bit]
  cases h : cornerOk (x - ((k % 2 : Nat) : Int)) (y - ((k / 2 : Nat) : Int)) (z : Int)
  · rw [cornerCells, if_neg (by rw [h]; simp)]; simp
  · have hq := cornerOk_iff.1 h
    rw [Bool.true_and, Bool.eq_iff_iff, decide_eq_true_eq, cornerCells, if_pos h, ccUpto]
    simp only [List.mem_map, List.mem_filter, List.mem_range, decide_eq_true_eq]
    constructor
    · rintro ⟨d, ⟨j, ⟨hj, hjz⟩, rfl⟩, e⟩
      unfold idxN at e
      dsimp only at e
      simp only [Bool.not_eq_true', beq_eq_false_iff_ne]
      omega
    · intro e
      simp only [Bool.not_eq_true', beq_eq_false_iff_ne] at e
      refine ⟨_, ⟨k, ⟨hk, by omega⟩, rfl⟩, ?_⟩
      unfold idxN
      dsimp only
      omega
theorem all_snoc_lt' {p : Nat → Prop} {q : Nat} (h : ∀ j < q, p j) (hq : p q) : ∀ j < q + 1, p j := fun j hj => by
  by_cases e : j = q
  · subst e; exact hq
  · exact h j (by omega)
def frTo (s : Nat) (l : List Cl) (j : Nat) : Bool := (l.take j).all fun c => s.testBit (idxN c)
theorem frTo_succ {s : Nat} {l : List Cl} {j : Nat} {c : Cl} (h : l[j]? = some c) : frTo s l (j + 1) = (frTo s l j && s.testBit (idxN c)) := by unfold frTo; rw [take_snoc_at h]; simp
theorem frTo_all {s : Nat} {l : List Cl} {j : Nat} (h : j = l.length) : frTo s l j = (s &&& setL l == setL l) := by unfold frTo; rw [List.take_of_length_le (by omega), all_sub]
theorem bdiff_or_card {R U o s f : Nat} (hR : R < 18446744073709551616) (hU : U < 18446744073709551616) (ho : o < 18446744073709551616) (hs : s = bdiff R U) (h : s &&& o = o) (h0 : o ≠ 0) (hf : card s ≤ f + 1) : bdiff R (U ||| o) = bdiff s o ∧ card (bdiff R (U ||| o)) ≤ f := by
  have e : bdiff R (U ||| o) = bdiff s o := by rw [hs, bdiff_or hR hU ho]
  refine ⟨e, ?_⟩
  rw [e]
  have hsl : s < 18446744073709551616 := by rw [hs]; exact bdiff_lt hR
  have := card_diff hsl ho h
  have hc : card o ≠ 0 := fun e => h0 ((card_zero ho).1 e)
  omega
set_option maxRecDepth 100000 in
set_option maxHeartbeats 4000000 in
theorem l27Count_any (w0 : World) (A : Option Addr) (c : Nat) (rs : List Int) (hreg : regOk rs = true) (hr : RdI w0 A rs) (B : Option Addr) (N d : Nat) (cs : List Cl) (hcs : cs = regCells rs) (hN : N = cs.length) (hs : RdC w0 B cs) (g : Nat) (hg : w0.heap.size ≤ g) :
    ∀ (f U : Nat) (w : World), Below w0.heap.size w0 w → Blk w g 4 (mkB U) → U < 18446744073709551616 → card (bdiff (regSet rs) U) ≤ f →
    Calls Try.prog 56 #[.agg #[.slice A rs.length c], .slice B N d, .slice (some ⟨g, 0, none⟩) 64 64] w fun e w' => e = .returned (.int .i64 (wrap64 (covs tilesC f (bdiff (regSet rs) U)))) ∧ Below w.heap.size w w' := by
  have hRl := regSet_lt hreg
  have hcs2 : cs = cellsBy (regSet rs).testBit 64 := by rw [hcs, regCells_set hreg]
  have hN64 : N ≤ 64 := by rw [hN, hcs]; exact regCells_len rs
  have hok : ∀ q ∈ cs, cellOk q.1 q.2 = true := fun q hq => by rw [hcs2] at hq; exact (mem_cellsBy.1 hq).1
  have h8 : rs.length ≤ 1048576 := by have := (regOk_iff.1 hreg).1; omega
  have HR := Lib.hid hr
  have HS := Lib.hid hs
  have HN := Lib.hid hN
  have HCS := Lib.hid hcs2
  have HOK := Lib.hid hok
  have HREG := Lib.hid hreg
  obtain ⟨R, hR⟩ : ∃ R, R = regSet rs := ⟨_, rfl⟩
  rw [← hR] at hRl HCS ⊢
  have HRR := Lib.hid hR
  clear hr hs hN hcs hcs2 hok hreg hR
  intro f
  induction f with
  | zero =>
    intro U w hb0 hU hUl hcd
    have hs0 : bdiff R U = 0 := (card_zero (bdiff_lt hRl)).1 (by omega)
    have HS0 := Lib.hid hs0
    have hB := bl_alloc (Below.refl w.heap.size w) (.cells #[.slice A rs.length c] 34)
    have HB0 := Lib.hid hb0
    have HUB := Lib.hid hU
    clear hb0 hU hs0 hcd
    have hall : ∀ j < N, ∀ q, cs[j]? = some q → U.testBit (idxN q) = true := fun j hj q hq => by
      have hm := List.mem_of_getElem? hq
      rw [HCS.out, mem_cellsBy] at hm
      have h1 : (bdiff R U).testBit (idxN q) = false := by rw [HS0.out]; simp
      rw [bdiff_bit hRl hUl, hm.2] at h1
      simpa using h1
    have HALL := Lib.hid hall
    clear hall
    go_enter Try.func56, Try.ntmps56
    go_wp2_with fail
    go_loopw [7] (fun q wr => ∃ a : Nat, a ≤ N ∧ q = .int .i64 a ∧ Below w.heap.size w wr) (fun q _ => N - (intOf q).toNat)
    case atStart => exact ⟨0, by omega, rfl, hB⟩
    case round =>
      obtain ⟨a, ha, rfl, hB1⟩ := hrel
      clear hB
      have hB := hB1
      clear hB1
      by_cases haN : a < N
      · obtain ⟨b, off, x, y, rfl, hbl, hv, _, _, _, k0, k1⟩ := ((HS.out.below HB0.out).below hB).at_ (k := a) (by have := HN.out; omega)
        have hxy := HOK.out _ (List.mem_of_getElem? hv)
        obtain ⟨i, hi⟩ : ∃ i, i = (y * 8 + x).toNat := ⟨_, rfl⟩
        have hi64 : i < 64 := by have := cellOk_iff.1 hxy; omega
        have HI := Lib.hid hi.symm
        have HU := Lib.hid (show U.testBit i = true by rw [hi]; exact HALL.out a haN _ hv)
        have UB1 := HUB.out.bel hB
        clear hv hi
        go_wp2_with (go_at_call 83; refine (CellIndex_n x y _ hxy).mono ?_; rintro e wn ⟨rfl, hbn⟩; have hSz := bl_sz (bl_trans hB (by go_grown)) hbn; replace hB := bl_trans (bl_trans hB (by go_grown)) hbn; rw [HI.out]; replace UB1 := UB1.bel (bl_trans (by go_grown) hbn); have hcu := UB1.getB hi64; rw [HU.out] at hcu; clear hbn)
        go_roundw
        case rel => exact ⟨a + 1, by omega, by go_num, hB⟩
        case measure => simp [intOf]; omega
      · obtain rfl : a = N := by omega
        go_wp2_with fail
        go_ret
        exact ⟨ret_int (by rw [HS0.out, covs_zero]; exact (IntWalk.wrap64_in 1 (by omega)).symm), hB⟩
  | succ f ih =>
    intro U w hb0 hU hUl hcd
    obtain ⟨s, hs⟩ : ∃ s, s = bdiff R U := ⟨_, rfl⟩
    rw [← hs] at hcd ⊢
    have hsl : s < 18446744073709551616 := by rw [hs]; exact bdiff_lt hRl
    have HSD := Lib.hid hs
    have hB := bl_alloc (Below.refl w.heap.size w) (.cells #[.slice A rs.length c] 34)
    have P := Blk.new w 34 [.slice A rs.length c]
    have HB0 := Lib.hid hb0
    have HCD := Lib.hid hcd
    have HUB := Lib.hid hU
    have Ih := Lib.hid ih
    have hgw := hU.lt
    have hw0z := hb0.size
    clear ih hb0 hcd hU hs
    go_enter Try.func56, Try.ntmps56
    go_upto_block 0 with fail
    go_cut [7] from 17 to 32 (fun q wr => ∃ a : Nat, a ≤ N ∧ q = .int .i64 a ∧ Hid (∀ j < a, ∀ q, cs[j]? = some q → U.testBit (idxN q) = true) ∧ Hid (∀ q, cs[a]? = some q → U.testBit (idxN q) = false) ∧ Blk wr w.heap.size 34 [.slice A rs.length c] ∧ Below w.heap.size w wr)
    case first =>
      go_wp2_with fail
      go_loopw [7] (fun q wr => ∃ a : Nat, a ≤ N ∧ q = .int .i64 a ∧ Hid (∀ j < a, ∀ q, cs[j]? = some q → U.testBit (idxN q) = true) ∧ Blk wr w.heap.size 34 [.slice A rs.length c] ∧ Below w.heap.size w wr) (fun q _ => N - (intOf q).toNat)
      case atStart => exact ⟨0, by omega, rfl, Lib.hid (fun j hj => absurd hj (by omega)), P, hB⟩
      case round =>
        obtain ⟨a, ha, rfl, HA, P1, hB1⟩ := hrel
        clear hB P
        have hB := hB1
        have P := P1
        clear hB1 P1
        by_cases haN : a < N
        · obtain ⟨b, off, x, y, rfl, hbl, hv, _, _, _, k0, k1⟩ := ((HS.out.below HB0.out).below hB).at_ (k := a) (by have := HN.out; omega)
          have hxy := HOK.out _ (List.mem_of_getElem? hv)
          obtain ⟨i, hi⟩ : ∃ i, i = (y * 8 + x).toNat := ⟨_, rfl⟩
          have hi64 : i < 64 := by have := cellOk_iff.1 hxy; omega
          have HI := Lib.hid hi.symm
          have HII := Lib.hid (show idxN (x, y) = i from hi.symm)
          have HV := Lib.hid hv
          have UB1 := HUB.out.bel hB
          clear hv hi
          cases hu : U.testBit i
          · have HU := Lib.hid hu
            clear hu
            go_wp2_with (go_at_call 83; refine (CellIndex_n x y _ hxy).mono ?_; rintro e wn ⟨rfl, hbn⟩; have hSz := bl_sz (bl_trans hB (by go_grown)) hbn; replace hB := bl_trans (bl_trans hB (by go_grown)) hbn; replace P := P.bel (bl_trans (by go_grown) hbn); replace Pc := P.c1; rw [HI.out]; replace UB1 := UB1.bel (bl_trans (by go_grown) hbn); have hcu := UB1.getB hi64; rw [HU.out] at hcu; clear hbn)
            go_meet
            exact ⟨a, by omega, rfl, HA, Lib.hid (fun q hq => by rw [HV.out] at hq; injection hq with hq; rw [← hq, HII.out]; exact HU.out), P, hB⟩
          · have HU := Lib.hid hu
            have HA2 := Lib.hid (all_snoc_lt' HA.out (q := a) (fun q hq => by rw [HV.out] at hq; injection hq with hq; rw [← hq, HII.out]; exact hu))
            clear hu
            go_wp2_with (go_at_call 83; refine (CellIndex_n x y _ hxy).mono ?_; rintro e wn ⟨rfl, hbn⟩; have hSz := bl_sz (bl_trans hB (by go_grown)) hbn; replace hB := bl_trans (bl_trans hB (by go_grown)) hbn; replace P := P.bel (bl_trans (by go_grown) hbn); replace Pc := P.c1; rw [HI.out]; replace UB1 := UB1.bel (bl_trans (by go_grown) hbn); have hcu := UB1.getB hi64; rw [HU.out] at hcu; clear hbn)
            go_roundw
            case rel => exact ⟨a + 1, by omega, by go_num, HA2, P, hB⟩
            case measure => simp [intOf]; omega
        · obtain rfl : a = N := by omega
          go_wp2_with fail
          go_meet
          exact ⟨a, by omega, rfl, HA, Lib.hid (fun q hq => by have := (List.getElem?_eq_some_iff.1 hq).1; have := HN.out; omega), P, hB⟩
    case rest =>
      obtain ⟨a, ha, rfl, HA1, HA2, P1, hB1⟩ := hcut
      clear hB P
      have hff := first_free hRl hUl HCS.out HA1.out
      rw [← HSD.out] at hff
      by_cases haN : a = N
      · have hs0 := Lib.hid (hff.1 (by rw [haN]; exact HN.out))
        have e0 : ((a : Int) == (N : Int)) = true := by simp [haN]
        clear hff haN
        go_wp2_with fail
        go_ret
        exact ⟨ret_int (by rw [hs0.out, covs_zero]; exact (IntWalk.wrap64_in 1 (by omega)).symm), hB1⟩
      · have e0 : ((a : Int) == (N : Int)) = false := by simp; omega
        have haN2 : a < N := by omega
        obtain ⟨b, off, x, y, rfl, hbl, hv, _, _, _, k0, k1⟩ := ((HS.out.below HB0.out).below hB1).at_ (k := a) (by have := HN.out; omega)
        obtain ⟨hxy2, hs0⟩ := hff.2 _ hv (HA2.out _ hv)
        have hxy := HOK.out _ (List.mem_of_getElem? hv)
        have hrng := cellOk_iff.1 hxy
        obtain ⟨G, hG⟩ : ∃ G : Nat → Int, G = fun own => covs tilesC f (bdiff s own) := ⟨_, rfl⟩
        have HG := Lib.hid hG
        have HCV := Lib.hid (show wrap64 (covs tilesC (f + 1) s) = wrap64 (cSum2 G s x y 4) by
          rw [covs_succ _ _ hs0, cSum_eq, hG]
          unfold tilesC
          rw [← hxy2])
        have HXY := Lib.hid hxy
        have HBS := Lib.hid hB1
        have HPS := Lib.hid P1
        have HUS := Lib.hid (HUB.out.bel hB1)
        have K0 := Lib.hid k0
        have K1 := Lib.hid k1
        have hbz := hB1.size
        obtain ⟨wS, rfl⟩ : ∃ wS : World, wS = wc := ⟨_, rfl⟩
        clear hff haN hv hxy2 hs0 hG hB1 P1 k0 k1 hxy
        go_wp2_with fail
        go_loopw [8, 9] (fun n q wr => ∃ k : Nat, k ≤ 4 ∧ q = .int .i64 k ∧ n = .int .i64 (wrap64 (cSum2 G s x y k)) ∧ Below wS.heap.size wS wr) (fun _ q _ => 4 - (intOf q).toNat)
        case atStart => exact ⟨0, by omega, rfl, by rw [cSum2, IntWalk.wrap64_in 0 (by omega)], Below.refl _ _⟩
        case round =>
          obtain ⟨k, hk, rfl, rfl, hBk⟩ := hrel
          by_cases hk4 : k < 4
          · have dk : decide ((k : Int) < 4) = true := decide_eq_true (by omega)
            obtain ⟨s2, hs2⟩ : ∃ s2, s2 = cSum2 G s x y k := ⟨_, rfl⟩
            have HSK := Lib.hid (show cSum2 G s x y (k + 1) = s2 + cSum3 G s x y k 4 by rw [cSum2, hs2])
            rw [← hs2]
            clear hs2
            obtain ⟨kx, hkx⟩ : ∃ kx : Int, kx = ((k % 2 : Nat) : Int) := ⟨_, rfl⟩
            obtain ⟨ky, hky⟩ : ∃ ky : Int, ky = ((k / 2 : Nat) : Int) := ⟨_, rfl⟩
            have e1 : Int.tmod (k : Int) 2 = kx := by rw [Int.tmod_eq_emod_of_nonneg (by omega)]; omega
            have e2 : Int.tdiv (k : Int) 2 = ky := by rw [Int.tdiv_eq_ediv_of_nonneg (by omega)]; omega
            have e3 : (k : Int) % 2 = kx := by omega
            have e4 : (k : Int) / 2 = ky := by omega
            have hkxr : 0 ≤ kx ∧ kx ≤ 1 := by omega
            have hkyr : 0 ≤ ky ∧ ky ≤ 1 := by omega
            have HKX := Lib.hid hkx
            have HKY := Lib.hid hky
            have HBK := Lib.hid hBk
            clear hkx hky hBk
            obtain ⟨wk, rfl⟩ : ∃ wk : World, wk = wr := ⟨_, rfl⟩
            go_wp2_with fail
            go_loopw [8, 10] (fun n q wr => ∃ z : Nat, z ≤ 4 ∧ q = .int .i64 z ∧ n = .int .i64 (wrap64 (s2 + cSum3 G s x y k z)) ∧ Below wS.heap.size wS wr) (fun _ q _ => 4 - (intOf q).toNat)
            case atStart => exact ⟨0, by omega, rfl, by rw [cSum3, Int.add_zero], HBK.out⟩
            case round =>
              obtain ⟨z, hz, rfl, rfl, hB⟩ := hrel
              by_cases hz4 : z < 4
              · have dz : decide ((z : Int) < 4) = true := decide_eq_true (by omega)
                obtain ⟨X, hX⟩ : ∃ X, X = x - kx := ⟨_, rfl⟩
                obtain ⟨Y, hY⟩ : ∃ Y, Y = y - ky := ⟨_, rfl⟩
                obtain ⟨o, ho⟩ : ∃ o, o = cOwn (X, Y, (z : Int)) := ⟨_, rfl⟩
                have hol := cOwn_lt (X, Y, (z : Int))
                have hhas : hasBit o x y = (cornerOk X Y (z : Int) && !(z == k)) := by
                  rw [ho, hX, hY, HKX.out, HKY.out]; exact corner_has HXY.out hk4 hz4
                have hcon : cSum3 G s x y k (z + 1) = cSum3 G s x y k z + if hasBit o x y then (if s &&& o == o then G o else 0) else 0 := by
                  rw [cSum3, cCon, ho, hX, hY, HKX.out, HKY.out]
                rw [← ho] at hol
                obtain ⟨n, hn⟩ : ∃ n, n = wrap64 (s2 + cSum3 G s x y k z) := ⟨_, rfl⟩
                rw [← hn]
                have hw1 : IntKind.i64.wrap (x - kx) = X := by rw [hX]; exact IntWalk.i64_in _ (by omega)
                have hw2 : IntKind.i64.wrap ky = ky := IntWalk.i64_in _ (by omega)
                have hw3 : IntKind.i64.wrap (y - ky) = Y := by rw [hY]; exact IntWalk.i64_in _ (by omega)
                have hw4 : x - kx = X := hX.symm
                have hw5 : y - ky = Y := hY.symm
                have hw6 : IntKind.i64.wrap X = X := IntWalk.i64_in _ (by omega)
                have hw7 : IntKind.i64.wrap Y = Y := IntWalk.i64_in _ (by omega)
                have k0 := (hB.cell (p := ⟨b, off + a * 2, none⟩) hbl).trans K0.out
                have k1 := (hB.cell (p := ⟨b, off + a * 2 + 1, none⟩) hbl).trans K1.out
                have HN2 := Lib.hid hn
                have HO := Lib.hid ho
                have HHAS := Lib.hid hhas
                have HCON := Lib.hid hcon
                have HBZ := Lib.hid hB
                clear hX hY ho hhas hcon hn hB
                go_wp2_with fail
                go_region_held3 (fun w' => w'.cell? ⟨b, off + a * 2, none⟩ = some (.int .i64 x) ∧ w'.cell? ⟨b, off + a * 2 + 1, none⟩ = some (.int .i64 y)) (go_keep) (first | fail)
                have Q := (Blk.new wr 84 [.int .i64 X, .int .i64 Y, .int .i64 z]).drew
                have hB := bl_drew (bl_alloc HBZ.out (.cells #[.int .i64 X, .int .i64 Y, .int .i64 z] 84))
                obtain ⟨W1, hW1⟩ : ∃ W1 : World, W1 = (wr.alloc (.cells #[.int .i64 X, .int .i64 Y, .int .i64 z] 84)).drew := ⟨_, rfl⟩
                rw [← hW1] at Q hB ⊢
                clear hW1 k0 k1 HBZ
                have Qc := Q.c3
                have hzW := hB.size
                by_cases hzk : z = k
                · have t1 : ((z : Int) == (k : Int)) = true := by simp [hzk]
                  have HR3 := Lib.hid (show wrap64 (s2 + cSum3 G s x y k (z + 1)) = n by
                    rw [HCON.out, HHAS.out, HN2.out, show (z == k) = true by simp [hzk]]; simp)
                  clear hzk
                  go_wp2_with (go_at_call 84; refine (CornerCells_s X Y z _).mono ?_; rintro e wn ⟨v, rfl, o1, hbn⟩; have hSz := bl_sz (bl_trans hB (by go_grown)) hbn; replace hB := bl_trans (bl_trans hB (by go_grown)) hbn; replace Q := Q.bel (bl_trans (by go_grown) hbn); replace Qc := Q.c3; obtain ⟨⟨A2, c2, rfl⟩, _⟩ := id o1; clear o1; clear hbn)
                  go_roundw
                  case rel => exact ⟨z + 1, by omega, by go_num, by rw [HR3.out], hB⟩
                  case measure => simp [intOf]; omega
                · have t1 : ((z : Int) == (k : Int)) = false := by simp; omega
                  have hzk2 : (z == k) = false := by simpa using hzk
                  cases hco : cornerOk X Y (z : Int)
                  · have HL0 := Lib.hid (show (cornerCells X Y (z : Int)).length = 0 by simp [cornerCells, hco])
                    have HR3 := Lib.hid (show wrap64 (s2 + cSum3 G s x y k (z + 1)) = n by
                      rw [HCON.out, HHAS.out, HN2.out, hco]; simp)
                    clear hzk hzk2 hco
                    go_wp2_with (go_at_call 84; refine (CornerCells_s X Y z _).mono ?_; rintro e wn ⟨v, rfl, o1, hbn⟩; have hSz := bl_sz (bl_trans hB (by go_grown)) hbn; replace hB := bl_trans (bl_trans hB (by go_grown)) hbn; replace Q := Q.bel (bl_trans (by go_grown) hbn); replace Qc := Q.c3; obtain ⟨⟨A2, c2, rfl⟩, _⟩ := id o1; clear o1; rw [HL0.out]; clear hbn)
                    go_roundw
                    case rel => exact ⟨z + 1, by omega, by go_num, by rw [HR3.out], hB⟩
                    case measure => simp [intOf]; omega
                  · have hcc := corner_cells hco
                    obtain ⟨cl, hcl⟩ : ∃ cl, cl = cornerCells X Y (z : Int) := ⟨_, rfl⟩
                    rw [← hcl] at hcc
                    have HCL := Lib.hid hcl
                    have HCC := Lib.hid hcc
                    have HL3 := Lib.hid hcc.2.2
                    have HSL := Lib.hid (show setL cl = o by rw [hcl, HO.out]; rfl)
                    have HR3 := Lib.hid (show wrap64 (s2 + cSum3 G s x y k (z + 1)) = wrap64 (n + wrap64 (if s &&& o == o then G o else 0)) by
                      rw [HCON.out, HHAS.out, hco, hzk2, HN2.out, ← Int.add_assoc, wrap_add]; simp)
                    clear hzk hzk2 hco hcc hcl
                    go_upto_block 6 with (go_at_call 84; refine (CornerCells_s X Y z _).mono ?_; rintro e wl ⟨v, rfl, o1, hbn⟩; have hSz := bl_sz (bl_trans hB (by go_grown)) hbn; replace hB := bl_trans (bl_trans hB (by go_grown)) hbn; replace Q := Q.bel (bl_trans (by go_grown) hbn); replace Qc := Q.c3; rw [← HCL.out] at o1; obtain ⟨⟨A2, c2, rfl⟩, _⟩ := id o1; rw [HL3.out] at o1 ⊢; have OC := Lib.hid o1; clear o1; clear hbn)
                    go_wp2_with fail
                    have HBL := Lib.hid hB
                    have hlz := hB.size
                    have HPL := Lib.hid (HPS.out.bel hB)
                    have HUL := Lib.hid (HUS.out.bel hB)
                    have hBL2 : w0.heap.size ≤ wl.heap.size := by omega
                    have HWL := Lib.hid (HB0.out.trans ((HBS.out.trans (hB.mono hbz)).mono hw0z))
                    clear hB Q Qc
                    go_loopw [13, 14] (fun v i wr => ∃ j : Nat, j ≤ 3 ∧ i = .int .i64 j ∧ v = .bool (frTo s cl j) ∧ Below wl.heap.size wl wr) (fun _ i _ => 3 - (intOf i).toNat)
                    case atStart => exact ⟨0, by omega, rfl, by simp [frTo], Below.refl _ _⟩
                    case round =>
                      obtain ⟨j, hj, rfl, rfl, hB⟩ := hrel
                      by_cases hj3 : j < 3
                      · have dj : decide ((j : Int) < 3) = true := decide_eq_true (by omega)
                        obtain ⟨b9, off9, p, q, rfl, hb9, hv9, _, _, _, c0, c1⟩ := OC.out.rd.at_ (k := j) (by have := HL3.out; omega)
                        have hpq := HCC.out.1 _ (List.mem_of_getElem? hv9)
                        have HFS := Lib.hid (frTo_succ (s := s) hv9)
                        have HPQ := Lib.hid hpq
                        have C0 := Lib.hid c0
                        have C1 := Lib.hid c1
                        obtain ⟨i, hi⟩ : ∃ i, i = (q * 8 + p).toNat := ⟨_, rfl⟩
                        have hi64 : i < 64 := by have := cellOk_iff.1 hpq; omega
                        have hi64' : (i : Int) < 64 := by omega
                        have HI := Lib.hid hi.symm
                        have HII := Lib.hid (show idxN (p, q) = i from hi.symm)
                        have hsb : s.testBit i = (R.testBit i && !U.testBit i) := by rw [HSD.out, bdiff_bit hRl hUl]
                        have HSB := Lib.hid hsb
                        have hpbl := HPL.out.lt
                        have hgbl := HUL.out.lt
                        have CU := Lib.hid (HUL.out.getB hi64)
                        have CP := Lib.hid HPL.out.c1
                        have HBJ := Lib.hid hB
                        have z0 := (hB.cell (p := ⟨b9, off9 + j * 2, none⟩) hb9).trans c0
                        have z1 := (hB.cell (p := ⟨b9, off9 + j * 2 + 1, none⟩) hb9).trans c1
                        have z2 := (hB.cell (p := ⟨w.heap.size, 0, none⟩) hpbl).trans CP.out
                        have z3 := (hB.cell (p := ⟨g, i, none⟩) hgbl).trans CU.out
                        have q0 := bq_cell z0
                        have q1 := bq_cell z1
                        have q2 := bq_cell z2
                        have hj0 : (0 : Int) ≤ (j : Int) := by omega
                        have hj1 : (j : Int) < 3 := by omega
                        have hi0 : (0 : Int) ≤ (i : Int) := by omega
                        clear hv9 hpq c0 c1 hi hsb z0 z1 z2 hB
                        cases hf : frTo s cl j
                        · have HF2 := Lib.hid (show frTo s cl (j + 1) = false by rw [HFS.out, hf]; rfl)
                          clear hf
                          go_wp2_with fail
                          (refine wp_region_quiet_bel (by kernel_rfl) (by kernel_rfl) ?_; (repeat (first | go_big_quiet_step (fail) | quiet_step (fail))); refine wpQuiet_nil ?_; intro wq hw0; obtain ⟨⟨_, hbq⟩, hw1⟩ := hw0; subst hw1; try dsimp only)
                          go_wp2_with fail
                          go_roundw
                          case rel => exact ⟨j + 1, by omega, by go_num, by rw [HF2.out], bl_trans HBJ.out hbq⟩
                          case measure => simp [intOf]; omega
                        · have HF2 := Lib.hid (show frTo s cl (j + 1) = s.testBit i by rw [HFS.out, hf, HII.out]; rfl)
                          have hhc := HasCell_bit HREG.out HPQ.out
                          rw [← HRR.out, HII.out] at hhc
                          have HHC := Lib.hid hhc
                          clear hf hhc
                          cases hr : R.testBit i
                          · have HR0 := Lib.hid hr
                            clear z3
                            have HF3 := Lib.hid (show frTo s cl (j + 1) = false by rw [HF2.out, HSB.out, hr]; rfl)
                            clear hr
                            go_wp2_with fail
                            (refine wp_region_quiet_bel (by kernel_rfl) (by kernel_rfl) ?_; (repeat (first | go_big_quiet_step ((go_at_call 85; exact Calls.bel_w (fun W hW => (HasCell_s A c rs p q W h8 (HR.out.below (HWL.out.trans ((HBJ.out.trans (hW.mono HBJ.out.size)).mono hBL2)))).mono (fun e w' h => ⟨h.1.trans (ret_bool (HHC.out.trans HR0.out)), h.2⟩)))) | quiet_step ((go_at_call 85; exact Calls.bel_w (fun W hW => (HasCell_s A c rs p q W h8 (HR.out.below (HWL.out.trans ((HBJ.out.trans (hW.mono HBJ.out.size)).mono hBL2)))).mono (fun e w' h => ⟨h.1.trans (ret_bool (HHC.out.trans HR0.out)), h.2⟩)))))); refine wpQuiet_nil ?_; intro wq hw0; obtain ⟨⟨_, hbq⟩, hw1⟩ := hw0; subst hw1; try dsimp only)
                            go_wp2_with fail
                            go_roundw
                            case rel => exact ⟨j + 1, by omega, by go_num, by rw [HF3.out], bl_trans HBJ.out hbq⟩
                            case measure => simp [intOf]; omega
                          · have HR0 := Lib.hid hr
                            obtain ⟨u, hu⟩ : ∃ u, u = U.testBit i := ⟨_, rfl⟩
                            have HF3 := Lib.hid (show frTo s cl (j + 1) = !u by rw [HF2.out, HSB.out, hr, hu]; rfl)
                            rw [← hu] at z3
                            have q3 := bq_cell z3
                            clear hr hu z3
                            go_wp2_with fail
                            (refine wp_region_quiet_bel (by kernel_rfl) (by kernel_rfl) ?_; (repeat (first | go_big_quiet_step ((first | (go_at_call 85; exact Calls.bel_w (fun W hW => (HasCell_s A c rs p q W h8 (HR.out.below (HWL.out.trans ((HBJ.out.trans (hW.mono HBJ.out.size)).mono hBL2)))).mono (fun e w' h => ⟨h.1.trans (ret_bool (HHC.out.trans HR0.out)), h.2⟩))) | (go_at_call 83; exact Calls.bel_w (fun W hW => (CellIndex_n p q W HPQ.out).mono (fun e w' h => ⟨h.1.trans (ret_int (by rw [HI.out])), h.2⟩))))) | quiet_step ((first | (go_at_call 85; exact Calls.bel_w (fun W hW => (HasCell_s A c rs p q W h8 (HR.out.below (HWL.out.trans ((HBJ.out.trans (hW.mono HBJ.out.size)).mono hBL2)))).mono (fun e w' h => ⟨h.1.trans (ret_bool (HHC.out.trans HR0.out)), h.2⟩))) | (go_at_call 83; exact Calls.bel_w (fun W hW => (CellIndex_n p q W HPQ.out).mono (fun e w' h => ⟨h.1.trans (ret_int (by rw [HI.out])), h.2⟩))))))); refine wpQuiet_nil ?_; intro wq hw0; obtain ⟨⟨_, hbq⟩, hw1⟩ := hw0; subst hw1; try dsimp only)
                            go_wp2_with fail
                            go_roundw
                            case rel => exact ⟨j + 1, by omega, by go_num, by rw [HF3.out], bl_trans HBJ.out hbq⟩
                            case measure => simp [intOf]; omega
                      · have hj33 : j = 3 := by omega
                        have dj : decide ((j : Int) < 3) = false := decide_eq_false (by omega)
                        have hfr := frTo_all (s := s) (l := cl) (hj33.trans HL3.out.symm)
                        clear hj33
                        rw [HSL.out] at hfr
                        rw [hfr]
                        have HBJ := Lib.hid (HBL.out.trans (hB.mono HBL.out.size))
                        cases c4 : (s &&& o == o)
                        · have HR4 := Lib.hid (show wrap64 (s2 + cSum3 G s x y k (z + 1)) = n by
                            rw [HR3.out, c4, HN2.out]; simp only [Bool.false_eq_true, if_false]; rw [wrap_add, Int.add_zero])
                          clear c4 hfr
                          go_wp2_with fail
                          go_roundw
                          case rel => exact ⟨z + 1, by omega, by go_num, by rw [HR4.out], HBJ.out⟩
                          case measure => simp [intOf]; omega
                        · have c4' : s &&& o = o := by simpa using c4
                          clear c4 hfr
                          go_upto_block 8 with fail
                          obtain ⟨wm, rfl⟩ : ∃ wm : World, wm = wr := ⟨_, rfl⟩
                          have hon : o ≠ 0 := by
                            intro e
                            have hz0 : card (setL cl) = 3 := (card_setL HCC.out.1 HCC.out.2.1).trans HL3.out
                            rw [HSL.out, e, (card_zero (by omega)).2 rfl] at hz0
                            omega
                          have hdis := sub_disj (l := cl) hRl hUl (by rw [← HSD.out, HSL.out]; exact c4')
                          have HDIS := Lib.hid hdis
                          obtain ⟨hbo, hcf⟩ := bdiff_or_card hRl hUl hol HSD.out c4' hon HCD.out
                          obtain ⟨x2, hx2⟩ : ∃ x2, x2 = wrap64 (G o) := ⟨_, rfl⟩
                          have HX := Lib.hid (show wrap64 (covs tilesC f (bdiff R (U ||| o))) = x2 by rw [hx2, HG.out, hbo])
                          obtain ⟨n2, hn2⟩ : ∃ n2, n2 = wrap64 (n + x2) := ⟨_, rfl⟩
                          have hv1 : wrap64 (n + x2) = n2 := hn2.symm
                          have hv2 : IntKind.i64.wrap (n + x2) = n2 := by rw [wrap_i64, hv1]
                          have HR4 := Lib.hid (show wrap64 (s2 + cSum3 G s x y k (z + 1)) = n2 by
                            rw [HR3.out, show (s &&& o == o) = true by simp [c4'], hn2, hx2]; simp)
                          have hUol : U ||| o < 18446744073709551616 := or_lt hUl hol
                          have HUM := Lib.hid (HUL.out.bel hB)
                          have HPM := Lib.hid (HPL.out.bel hB)
                          have OCM := Lib.hid (OC.out.bel hB)
                          have HWM := Lib.hid (HWL.out.trans (hB.mono hBL2))
                          have hWMz := HWM.out.size
                          have hB1 : g + 1 ≤ W1.heap.size := by omega
                          have hgm := HUM.out.lt
                          clear hdis c4' hon hbo hx2 hn2 hB
                          go_wp2_with fail
                          go_loopw [15] (fun i wr => ∃ j : Nat, j ≤ 3 ∧ i = .int .i64 j ∧ Blk wr g 4 (mkB (U ||| setL (cl.take j))) ∧ Btw g (g + 1) wm wr) (fun i _ => 3 - (intOf i).toNat)
                          case atStart => exact ⟨0, by omega, rfl, by simpa [setL] using HUM.out, Btw.refl _ _ _⟩
                          case round =>
                            obtain ⟨j2, hj2, rfl, UBm, hBt⟩ := hrel
                            have OCJ := OCM.out.btw hBt hB1
                            by_cases hj3 : j2 < 3
                            · have dj2 : decide ((j2 : Int) < 3) = true := decide_eq_true (by omega)
                              obtain ⟨b9, off9, p, q, rfl, hb9, hv9, _, _, _, c0, c1⟩ := OCJ.rd.at_ (k := j2) (by have := HL3.out; omega)
                              have hpq := HCC.out.1 _ (List.mem_of_getElem? hv9)
                              obtain ⟨i, hi⟩ : ∃ i, i = (q * 8 + p).toNat := ⟨_, rfl⟩
                              have hi64 : i < 64 := by have := cellOk_iff.1 hpq; omega
                              have HI := Lib.hid hi.symm
                              have HII := Lib.hid (show idxN (p, q) = i from hi.symm)
                              have HV9 := Lib.hid hv9
                              have HUBm := Lib.hid UBm
                              have HBt := Lib.hid hBt
                              clear hv9 hi OCJ UBm hBt
                              go_wp2_with (go_at_call 83; refine (CellIndex_n p q _ hpq).mono ?_; rintro e wn ⟨rfl, hbn⟩; rw [HI.out]; have UB2 := HUBm.out.bel hbn; have hcu := UB2.getB hi64; have huf := UB2.frozen i; have hm2 := UB2.markB HV9.out; rw [HII.out] at hm2; have HM2 := Lib.hid hm2; have HBt2 := Lib.hid ((HBt.out.bel hbn).set i (.bool true)); clear UB2 hm2)
                              go_roundw
                              case rel => exact ⟨j2 + 1, by omega, by go_num, HM2.out, HBt2.out⟩
                              case measure => simp [intOf]; omega
                            · have hj33 : j2 = 3 := by omega
                              have dj2 : decide ((j2 : Int) < 3) = false := decide_eq_false (by omega)
                              rw [hj33, List.take_of_length_le (by have := HL3.out; omega), HSL.out] at UBm
                              obtain ⟨w2, rfl⟩ : ∃ w2 : World, w2 = wr := ⟨_, rfl⟩
                              have hb2 := hBt.below HWM.out hg hWMz
                              have HIh := Lib.hid (Ih.out (U ||| o) w2 hb2 UBm hUol hcf)
                              have HPW := HPM.out.btw hBt (.inr (by omega))
                              have HPWc := HPW.c1
                              have HU2 := Lib.hid UBm
                              have HBt := Lib.hid hBt
                              have OC2 := Lib.hid OCJ
                              clear hj33 hb2 UBm hBt OCJ HPW
                              go_upto_block 10 with (go_at_call 56; refine HIh.out.mono ?_; rintro e wn ⟨rfl, hbn⟩; rw [HX.out])
                              obtain ⟨w3, rfl⟩ : ∃ w3 : World, w3 = wn := ⟨_, rfl⟩
                              have HBt3 := Lib.hid (HBt.out.bel hbn)
                              have HU3 := Lib.hid (HU2.out.bel hbn)
                              have OC3 := Lib.hid (OC2.out.bel hbn)
                              clear hbn HIh HPWc
                              go_wp2_with fail
                              go_loopw [16] (fun i wr => ∃ j : Nat, j ≤ 3 ∧ i = .int .i64 j ∧ Blk wr g 4 (mkB (U ||| setL (cl.drop j))) ∧ Btw g (g + 1) w3 wr) (fun i _ => 3 - (intOf i).toNat)
                              case atStart => exact ⟨0, by omega, rfl, by rw [List.drop_zero, HSL.out]; exact HU3.out, Btw.refl _ _ _⟩
                              case round =>
                                obtain ⟨j3, hj4, rfl, UBm, hBt⟩ := hrel
                                have OCJ := OC3.out.btw hBt hB1
                                by_cases hj5 : j3 < 3
                                · have dj3 : decide ((j3 : Int) < 3) = true := decide_eq_true (by omega)
                                  obtain ⟨b9, off9, p, q, rfl, hb9, hv9, _, _, _, c0, c1⟩ := OCJ.rd.at_ (k := j3) (by have := HL3.out; omega)
                                  have hpq := HCC.out.1 _ (List.mem_of_getElem? hv9)
                                  obtain ⟨i, hi⟩ : ∃ i, i = (q * 8 + p).toNat := ⟨_, rfl⟩
                                  have hi64 : i < 64 := by have := cellOk_iff.1 hpq; omega
                                  have HI := Lib.hid hi.symm
                                  have HII := Lib.hid (show idxN (p, q) = i from hi.symm)
                                  have HV9 := Lib.hid hv9
                                  have HUI := Lib.hid (HDIS.out _ (List.mem_of_getElem? hv9))
                                  have HUBm := Lib.hid UBm
                                  have HBt := Lib.hid hBt
                                  clear hv9 hi OCJ UBm hBt
                                  go_wp2_with (go_at_call 83; refine (CellIndex_n p q _ hpq).mono ?_; rintro e wn ⟨rfl, hbn⟩; rw [HI.out]; have UB2 := HUBm.out.bel hbn; have hcu := UB2.getB hi64; have huf := UB2.frozen i; have hm2 := UB2.clrB HV9.out HCC.out.1 HCC.out.2.1 HUI.out; rw [HII.out] at hm2; have HM2 := Lib.hid hm2; have HBt2 := Lib.hid ((HBt.out.bel hbn).set i (.bool false)); clear UB2 hm2)
                                  go_roundw
                                  case rel => exact ⟨j3 + 1, by omega, by go_num, HM2.out, HBt2.out⟩
                                  case measure => simp [intOf]; omega
                                · have hj33 : j3 = 3 := by omega
                                  have dj3 : decide ((j3 : Int) < 3) = false := decide_eq_false (by omega)
                                  rw [hj33, List.drop_eq_nil_of_le (by have := HL3.out; omega), show setL [] = 0 from rfl, Nat.or_zero] at UBm
                                  have HFIN := Lib.hid (HBJ.out.trans (((HBt3.out.trans hBt).back HUM.out UBm).mono HBJ.out.size))
                                  clear hj33 UBm hBt OCJ
                                  go_wp2_with fail
                                  go_roundw
                                  case rel => exact ⟨z + 1, by omega, by go_num, by rw [HR4.out], HFIN.out⟩
                                  case measure => simp [intOf]; omega
              · obtain rfl : z = 4 := by omega
                go_wp2_with fail
                go_roundw
                case rel => exact ⟨k + 1, by omega, by go_num, by rw [HSK.out], hB⟩
                case measure => simp [intOf]; omega
          · obtain rfl : k = 4 := by omega
            go_wp2_with fail
            go_ret
            exact ⟨ret_int HCV.out.symm, HBS.out.trans (hBk.mono HBS.out.size)⟩
set_option maxHeartbeats 1000000 in
theorem CountCorners_s (A : Option Addr) (c : Nat) (rs : List Int) (w : World) (hl : rs.length ≤ 1048576) (hr : RdI w A rs) :
    Calls Try.prog 17 #[.agg #[.slice A rs.length c]] w fun e w' => e = .returned (.int .i64 (countCorners rs)) ∧ Below w.heap.size w w' := by
  have hmk : ∀ w : World, (Instr.makeSlice 81 (.int .i64 64) (.int .i64 64)).run Try.prog w = .ok (.slice (some ⟨w.heap.size, 0, none⟩) 64 64) (w.alloc (.cells (mkB 0).toArray 4)) := fun w => by
    rw [mkB_zero, ← made_list]
    exact run_make_row' (P := Try.prog) 81 4 (.bool false) 1 Try.underlying81 info_bool rfl .i64 .i64 64 (by omega) (by omega) w
  (have hB := Below.refl w.heap.size w; have P := Blk.new w 34 [.slice A rs.length c]; have Pc := P.c1)
  have hr' := Lib.hid hr
  clear hr
  obtain ⟨L, hL⟩ : ∃ L, L = (regCells rs).length := ⟨_, rfl⟩
  have HL := Lib.hid hL
  cases h : regOk rs
  · have H := Lib.hid (countCorners_no1 h)
    have H1 := Lib.hid h
    clear h hL hmk
    go_enter Try.func17, Try.ntmps17
    go_wp2_with (first | (go_at_call 54; refine (CellsOf_s A c rs _ hl (hr'.out.below (bl_trans hB (by go_grown)))).mono ?_; rintro e wn ⟨v, rfl, o1, hbn⟩; have hSz := bl_sz (bl_trans hB (by go_grown)) hbn; replace hB := bl_trans (bl_trans hB (by go_grown)) hbn; replace P := P.bel (bl_trans (by go_grown) hbn); replace Pc := P.c1; obtain ⟨⟨A1, c1, rfl⟩, _⟩ := id o1; clear o1; rw [← HL.out]; clear hbn) | (go_at_call 55; refine (RegionOk_s A c rs _ hl (hr'.out.below (bl_trans hB (by go_grown)))).mono ?_; rintro e wn ⟨rfl, hbn⟩; have hSz := bl_sz (bl_trans hB (by go_grown)) hbn; replace hB := bl_trans (bl_trans hB (by go_grown)) hbn; replace P := P.bel (bl_trans (by go_grown) hbn); replace Pc := P.c1; rw [H1.out]; clear hbn))
    go_ret
    exact ⟨ret_int H.out.symm, (by first | (go_grown; done) | exact bl_trans hB (by go_grown))⟩
  · have hRl := regSet_lt h
    have hcl := regCells_len rs
    have H1 := Lib.hid h
    rw [← hL] at hcl
    clear h
    by_cases h18 : L ≤ 18
    · have H := Lib.hid (show wrap64 (covs tilesC 64 (bdiff (regSet rs) 0)) = countCorners rs by rw [countCorners_yes H1.out (by rw [← hL]; exact h18), bdiff_zero _ hRl])
      have d1 : decide ((18 : Int) < (L : Int)) = false := decide_eq_false (by omega)
      clear hL
      go_enter Try.func17, Try.ntmps17
      go_wp2_with (first | (go_at_call 54; refine (CellsOf_s A c rs _ hl (hr'.out.below (bl_trans hB (by go_grown)))).mono ?_; rintro e wn ⟨v, rfl, o1, hbn⟩; have hSz := bl_sz (bl_trans hB (by go_grown)) hbn; replace hB := bl_trans (bl_trans hB (by go_grown)) hbn; replace P := P.bel (bl_trans (by go_grown) hbn); replace Pc := P.c1; obtain ⟨⟨A1, c1, rfl⟩, _⟩ := id o1; have R1 := Lib.hid o1.rd; clear o1; rw [← HL.out]; clear hbn) | (go_at_call 55; refine (RegionOk_s A c rs _ hl (hr'.out.below (bl_trans hB (by go_grown)))).mono ?_; rintro e wx ⟨rfl, hbn⟩; have hSz := bl_sz (bl_trans hB (by go_grown)) hbn; replace hB := bl_trans (bl_trans hB (by go_grown)) hbn; replace P := P.bel (bl_trans (by go_grown) hbn); replace Pc := P.c1; rw [H1.out]; replace R1 := Lib.hid (R1.out.below hbn); clear hbn))
      have HX := Lib.hid (hr'.out.below hB)
      go_region_held3 (fun w' => w'.cell? ⟨w.heap.size, 0, none⟩ = some (.slice A rs.length c)) (go_keep)
        (first | (go_at_call 56; refine (l27Count_any wx A c rs H1.out HX.out A1 L c1 (regCells rs) rfl HL.out R1.out wx.heap.size (Nat.le_refl _) 64 0 _ (by go_grown) ((Blk.new wx 4 (mkB 0)).drew) (by decide) (card_le _)).mono ?_; rintro e wn ⟨rfl, hbn⟩; have hSz := bl_sz (bl_trans hB (by go_grown)) hbn; replace hB := bl_trans (bl_trans hB (by go_grown)) hbn; replace P := P.bel (bl_trans (by go_grown) hbn); replace Pc := P.c1; rw [H.out]; clear hbn))
      go_wp2_with fail
      go_ret
      exact ⟨rfl, (by first | (go_grown; done) | exact bl_trans hB (by go_grown))⟩
    · have H := Lib.hid (countCorners_no2 (rs := rs) (by rw [← hL]; exact h18))
      have d1 : decide ((18 : Int) < (L : Int)) = true := decide_eq_true (by omega)
      clear hL hmk
      go_enter Try.func17, Try.ntmps17
      go_wp2_with (first | (go_at_call 54; refine (CellsOf_s A c rs _ hl (hr'.out.below (bl_trans hB (by go_grown)))).mono ?_; rintro e wn ⟨v, rfl, o1, hbn⟩; have hSz := bl_sz (bl_trans hB (by go_grown)) hbn; replace hB := bl_trans (bl_trans hB (by go_grown)) hbn; replace P := P.bel (bl_trans (by go_grown) hbn); replace Pc := P.c1; obtain ⟨⟨A1, c1, rfl⟩, _⟩ := id o1; clear o1; rw [← HL.out]; clear hbn) | (go_at_call 55; refine (RegionOk_s A c rs _ hl (hr'.out.below (bl_trans hB (by go_grown)))).mono ?_; rintro e wn ⟨rfl, hbn⟩; have hSz := bl_sz (bl_trans hB (by go_grown)) hbn; replace hB := bl_trans (bl_trans hB (by go_grown)) hbn; replace P := P.bel (bl_trans (by go_grown) hbn); replace Pc := P.c1; rw [H1.out]; clear hbn))
      go_ret
      exact ⟨ret_int H.out.symm, (by first | (go_grown; done) | exact bl_trans hB (by go_grown))⟩
end Go.Proofs.Ytoehmocamaamcaa

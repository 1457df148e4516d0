/-
  Contracts of the functions that weigh regions (weigh, WeightOf, both) and count their cells by color (ColorCounts, both): what each returns, as a function of its arguments; nothing that was there is written; lists of at most 1048576.
-/
import Derived.Test.YtdcjhfmkkcakhaaWeight
import Derived.Test.YtdcjhfmkkcakhaaSets
import Derived.Test.YtdcjhfmkkcakhaaIn
namespace Go.Proofs.Ytdcjhfmkkcakhaa
open Go.ChangeShapes Go.WideShapes Go.ChangeAt Go.RowKit Go.Deep
set_option linter.unusedVariables false

def sumW (a b m : Int) (l : List Int) (cs : List (Int × Int)) : Int := cs.foldl (fun n c => n + weightAt a b m l c.1 c.2) 0
theorem sumW_snoc (a b m : Int) (l : List Int) (cs : List (Int × Int)) (x y : Int) : sumW a b m l (cs ++ [(x, y)]) = sumW a b m l cs + weightAt a b m l x y := by simp [sumW]
theorem weightAt_rng (a b m : Int) (l : List Int) (x y : Int) : 0 ≤ weightAt a b m l x y ∧ weightAt a b m l x y ≤ 8 := by
  unfold weightAt
  split
  · rename_i h
    have h1 : patOk a b m l = true := by simp only [Bool.and_eq_true] at h; exact h.1
    have h2 := patOk_true h1
    simp only [patOk, Bool.and_eq_true, List.all_eq_true] at h1
    rcases hx : l[(weightIdx a b x y).toNat]? with _ | v
    · simp
    · have := inB_true.1 (h1.2 v (List.mem_of_getElem? hx))
      simp; omega
  · omega
theorem sumW_rng (a b m : Int) (l : List Int) (cs : List (Int × Int)) : 0 ≤ sumW a b m l cs ∧ sumW a b m l cs ≤ 8 * cs.length := by
  have : ∀ (cs : List (Int × Int)) (n : Int), n ≤ cs.foldl (fun n c => n + weightAt a b m l c.1 c.2) n ∧ cs.foldl (fun n c => n + weightAt a b m l c.1 c.2) n ≤ n + 8 * cs.length := by
    intro cs
    induction cs with
    | nil => intro n; simp
    | cons c cs ih =>
      intro n
      have h1 := ih (n + weightAt a b m l c.1 c.2)
      have h2 := weightAt_rng a b m l c.1 c.2
      simp only [List.foldl_cons, List.length_cons]
      omega
  have h := this cs 0
  unfold sumW
  omega
def weightOf (a b m : Int) (l rs : List Int) : Int := if patOk a b m l then (sumW a b m l (regCells rs)) % m else 0
set_option maxHeartbeats 1000000 in
theorem weigh_any (a b m : Int) (A : Option Addr) (c : Nat) (l : List Int) (B : Option Addr) (d : Nat) (cs : List (Int × Int)) (w : World) (hl : l.length ≤ 1048576) (hr : RdI w A l) (hcs : cs.length ≤ 64) (hs : RdC w B cs) (hm : m ≠ 0) :
    Calls Try.prog 92 #[.agg #[.int .i64 a, .int .i64 b, .int .i64 m, .slice A l.length c], .slice B cs.length d] w fun e w' => e = .returned (.int .i64 ((sumW a b m l cs) % m)) ∧ Below w.heap.size w w' := by
  (have hB := Below.refl w.heap.size w; have P := Blk.new w 26 [.int .i64 a, .int .i64 b, .int .i64 m, .slice A l.length c]; have Pc := P.c4)
  have hr' := Lib.hid hr
  have hs' := Lib.hid hs
  have n1 : (m == 0) = false := by simp; omega
  clear hr hs
  go_enter Try.func92, Try.ntmps92
  go_wp2
  go_loopw [5, 10] (fun s i wr => ∃ k : Nat, k ≤ cs.length ∧ i = .int .i64 k ∧ s = .int .i64 (sumW a b m l (cs.take k)) ∧ Blk wr w.heap.size 26 [.int .i64 a, .int .i64 b, .int .i64 m, .slice A l.length c] ∧ Below w.heap.size w wr) (fun _ i _ => cs.length - (intOf i).toNat)
  case atStart => exact ⟨0, by omega, rfl, by simp [sumW], P, by go_grown⟩
  case round =>
    obtain ⟨k, hk, rfl, rfl, P', hB'⟩ := hrel
    clear Pc P hB
    have P := P'
    have hB := hB'
    clear P' hB'
    have hsr := sumW_rng a b m l (cs.take k)
    have hlt0 : (cs.take k).length ≤ 64 := by rw [List.length_take]; omega
    by_cases hlt : k < cs.length
    · obtain ⟨b', off, x, y, rfl, hbl, hv, hd, _, _, hc0, hc1⟩ := (hs'.out.below hB).at_ hlt
      have hs2 := Lib.hid (show sumW a b m l (cs.take (k + 1)) = sumW a b m l (cs.take k) + weightAt a b m l x y by rw [take_snoc_at hv, sumW_snoc])
      have hwr := weightAt_rng a b m l x y
      have Q := Blk.new wr 35 [.int .i64 x, .int .i64 y]
      have Qc := Q.c2
      replace P := P.alloc (.cells #[.int .i64 x, .int .i64 y] 35)
      have Pc := P.c4
      clear hv hd
      go_wp2_with (go_at_call 24; refine (WeightAt_i _ _ _ A c l _ _ _ hl (hr'.out.below (bl_trans hB (by go_grown)))).mono ?_; rintro e wn ⟨rfl, hbn⟩; have hSz := bl_sz (bl_trans hB (by go_grown)) hbn; replace hB := bl_trans (bl_trans hB (by go_grown)) hbn; replace P := P.bel (bl_trans (by go_grown) hbn); replace Pc := P.c4; replace Q := Q.bel (bl_trans (by go_grown) hbn); replace Qc := Q.c2; clear hbn)
      go_roundw
      case rel => exact ⟨k + 1, by omega, by go_num, by rw [hs2.out], P, hB⟩
      case measure => simp [intOf]; omega
    · have hkl : k = cs.length := by omega
      subst hkl
      rw [List.take_length] at hsr ⊢
      have Pc := P.c4
      go_wp2
      go_ret
      exact ⟨rfl, hB⟩
set_option maxHeartbeats 1000000 in
theorem WeightOf_i (a b m : Int) (A : Option Addr) (c : Nat) (l : List Int) (B : Option Addr) (d : Nat) (rs : List Int) (w : World) (hl : l.length ≤ 1048576) (hl2 : rs.length ≤ 1048576) (hr : RdI w A l) (hs : RdI w B rs) :
    Calls Try.prog 22 #[.agg #[.int .i64 a, .int .i64 b, .int .i64 m, .slice A l.length c], .agg #[.slice B rs.length d]] w fun e w' => e = .returned (.int .i64 (weightOf a b m l rs)) ∧ Below w.heap.size w w' := by
  (have hB := Below.refl w.heap.size w; have P := (Blk.new w 26 [.int .i64 a, .int .i64 b, .int .i64 m, .slice A l.length c]).alloc (.cells #[.slice B rs.length d] 31); have Pc := P.c4; have Q := Blk.new2 w (.cells #[.int .i64 a, .int .i64 b, .int .i64 m, .slice A l.length c] 26) 31 [.slice B rs.length d]; have Qc := Q.c1)
  have hr' := Lib.hid hr
  have hs' := Lib.hid hs
  clear hr hs
  cases h1 : patOk a b m l
  · go_enter Try.func22, Try.ntmps22
    go_wp2_with (first | (go_at_call 18; refine (PatternOk_i _ _ _ A c l _ hl (hr'.out.below (bl_trans hB (by go_grown)))).mono ?_; rintro e wn ⟨rfl, hbn⟩; have hSz := bl_sz (bl_trans hB (by go_grown)) hbn; replace hB := bl_trans (bl_trans hB (by go_grown)) hbn; replace P := P.bel (bl_trans (by go_grown) hbn); replace Pc := P.c4; replace Q := Q.bel (bl_trans (by go_grown) hbn); replace Qc := Q.c1; clear hbn) | (go_at_call 98; refine (RegionOk_i B d rs _ hl2 (hs'.out.below (bl_trans hB (by go_grown)))).mono ?_; rintro e wn ⟨rfl, hbn⟩; have hSz := bl_sz (bl_trans hB (by go_grown)) hbn; replace hB := bl_trans (bl_trans hB (by go_grown)) hbn; replace P := P.bel (bl_trans (by go_grown) hbn); replace Pc := P.c4; replace Q := Q.bel (bl_trans (by go_grown) hbn); replace Qc := Q.c1; clear hbn))
    go_ret
    exact ⟨ret_int (by simp [weightOf, h1]), (by first | (go_grown; done) | exact bl_trans hB (by go_grown))⟩
  · cases h2 : regOk rs
    · go_enter Try.func22, Try.ntmps22
      go_wp2_with (first | (go_at_call 18; refine (PatternOk_i _ _ _ A c l _ hl (hr'.out.below (bl_trans hB (by go_grown)))).mono ?_; rintro e wn ⟨rfl, hbn⟩; have hSz := bl_sz (bl_trans hB (by go_grown)) hbn; replace hB := bl_trans (bl_trans hB (by go_grown)) hbn; replace P := P.bel (bl_trans (by go_grown) hbn); replace Pc := P.c4; replace Q := Q.bel (bl_trans (by go_grown) hbn); replace Qc := Q.c1; clear hbn) | (go_at_call 98; refine (RegionOk_i B d rs _ hl2 (hs'.out.below (bl_trans hB (by go_grown)))).mono ?_; rintro e wn ⟨rfl, hbn⟩; have hSz := bl_sz (bl_trans hB (by go_grown)) hbn; replace hB := bl_trans (bl_trans hB (by go_grown)) hbn; replace P := P.bel (bl_trans (by go_grown) hbn); replace Pc := P.c4; replace Q := Q.bel (bl_trans (by go_grown) hbn); replace Qc := Q.c1; clear hbn))
      go_ret
      exact ⟨ret_int (by simp [weightOf, h1, regCells, h2, sumW]), (by first | (go_grown; done) | exact bl_trans hB (by go_grown))⟩
    · have p1 := patOk_true h1
      have n1 : m ≠ 0 := by omega
      have hcl := regCells_len rs
      go_enter Try.func22, Try.ntmps22
      go_wp2_with (first | (go_at_call 18; refine (PatternOk_i _ _ _ A c l _ hl (hr'.out.below (bl_trans hB (by go_grown)))).mono ?_; rintro e wn ⟨rfl, hbn⟩; have hSz := bl_sz (bl_trans hB (by go_grown)) hbn; replace hB := bl_trans (bl_trans hB (by go_grown)) hbn; replace P := P.bel (bl_trans (by go_grown) hbn); replace Pc := P.c4; replace Q := Q.bel (bl_trans (by go_grown) hbn); replace Qc := Q.c1; clear hbn) | (go_at_call 98; refine (RegionOk_i B d rs _ hl2 (hs'.out.below (bl_trans hB (by go_grown)))).mono ?_; rintro e wn ⟨rfl, hbn⟩; have hSz := bl_sz (bl_trans hB (by go_grown)) hbn; replace hB := bl_trans (bl_trans hB (by go_grown)) hbn; replace P := P.bel (bl_trans (by go_grown) hbn); replace Pc := P.c4; replace Q := Q.bel (bl_trans (by go_grown) hbn); replace Qc := Q.c1; clear hbn))
      go_region_held3 (fun w' => (w'.cell? ⟨w.heap.size, 0, none⟩ = some (.int .i64 a) ∧ w'.cell? ⟨w.heap.size, 1, none⟩ = some (.int .i64 b) ∧ w'.cell? ⟨w.heap.size, 2, none⟩ = some (.int .i64 m) ∧ w'.cell? ⟨w.heap.size, 3, none⟩ = some (.slice A l.length c)) ∧
          (w'.cell? ⟨w.heap.size + 1, 0, none⟩ = some (.slice B rs.length d))) (go_keep)
        (first | (go_at_call 99; refine (CellsOf_i B d rs _ hl2 (hs'.out.below (bl_trans hB (by go_grown)))).mono ?_; rintro e wn ⟨v, rfl, ⟨⟨A1, c1, rfl⟩, o1, p1⟩, hbn⟩; have hSz := bl_sz (bl_trans hB (by go_grown)) hbn; replace hB := bl_trans (bl_trans hB (by go_grown)) hbn; replace P := P.bel (bl_trans (by go_grown) hbn); replace Pc := P.c4; replace Q := Q.bel (bl_trans (by go_grown) hbn); replace Qc := Q.c1; have R1 := Lib.hid (OwC.rd ⟨⟨A1, c1, rfl⟩, o1, p1⟩); clear o1 p1; clear hbn) | (go_at_call 92; refine (weigh_any _ _ _ A c l A1 c1 (regCells rs) _ hl (hr'.out.below (bl_trans hB (by go_grown))) hcl (R1.out.below (by go_grown)) n1).mono ?_; rintro e wn ⟨rfl, hbn⟩; have hSz := bl_sz (bl_trans hB (by go_grown)) hbn; replace hB := bl_trans (bl_trans hB (by go_grown)) hbn; replace P := P.bel (bl_trans (by go_grown) hbn); replace Pc := P.c4; replace Q := Q.bel (bl_trans (by go_grown) hbn); replace Qc := Q.c1; clear hbn))
      go_wp2
      go_ret
      exact ⟨ret_int (by simp [weightOf, h1]), (by first | (go_grown; done) | exact bl_trans hB (by go_grown))⟩
def bump (n : Nat) (out : List Int) (c : Int × Int) : List Int := out.set ((c.1 + c.2) % n).toNat ((out[((c.1 + c.2) % n).toNat]?).getD 0 + 1)
def colorFold (n : Nat) (cs : List (Int × Int)) : List Int := cs.foldl (bump n) (List.replicate n 0)
def colorCounts (rs : List Int) (n : Int) : List Int := if regOk rs && inB n 2 4 then colorFold n.toNat (regCells rs) else []
theorem colorFold_snoc (n : Nat) (cs : List (Int × Int)) (c : Int × Int) : colorFold n (cs ++ [c]) = bump n (colorFold n cs) c := by simp [colorFold]
theorem colorFold_len (n : Nat) (cs : List (Int × Int)) : (colorFold n cs).length = n := by
  have : ∀ (cs : List (Int × Int)) (l : List Int), (cs.foldl (bump n) l).length = l.length := by
    intro cs
    induction cs with
    | nil => intro l; rfl
    | cons c cs ih => intro l; rw [List.foldl_cons, ih]; simp [bump]
  rw [colorFold, this]; simp
theorem colorFold_rng (n : Nat) (cs : List (Int × Int)) : ∀ x ∈ colorFold n cs, 0 ≤ x ∧ x ≤ cs.length := by
  have : ∀ (cs : List (Int × Int)) (l : List Int) (m : Nat), (∀ x ∈ l, 0 ≤ x ∧ x ≤ (m : Int)) → ∀ x ∈ cs.foldl (bump n) l, 0 ≤ x ∧ x ≤ ((m + cs.length : Nat) : Int) := by
    intro cs
    induction cs with
    | nil => intro l m h x hx; exact h x hx
    | cons c cs ih =>
      intro l m h x hx
      have := ih (bump n l c) (m + 1) (by
        intro y hy
        unfold bump at hy
        rcases List.mem_or_eq_of_mem_set hy with hy | rfl
        · have := h y hy; omega
        · rcases hq : l[((c.1 + c.2) % n).toNat]? with _ | v
          · simp; omega
          · have := h v (List.mem_of_getElem? hq)
            simp; omega) x hx
      simp only [List.length_cons]
      omega
  intro x hx
  have := this cs (List.replicate n 0) 0 (by intro y hy; have := List.eq_of_mem_replicate hy; omega) x hx
  omega
theorem colorCounts_len (rs : List Int) (n : Int) : (colorCounts rs n).length ≤ 4 := by
  unfold colorCounts
  split
  · rename_i h
    rw [colorFold_len]
    simp only [Bool.and_eq_true] at h
    have := inB_true.1 h.2
    omega
  · simp
theorem bump_facts {n : Nat} (hn : 2 ≤ n) (hn4 : n ≤ 4) {cs : List (Int × Int)} (hcs : cs.length ≤ 64) {x y : Int} (h : cellOk x y = true) :
    ∃ r : Nat, ∃ v : Int, (x + y).tmod (n : Int) = (r : Int) ∧ r < n ∧ (colorFold n cs)[r]? = some v ∧ 0 ≤ v ∧ v ≤ 64 ∧ colorFold n (cs ++ [(x, y)]) = (colorFold n cs).set r (v + 1) := by
  have hc := cellOk_iff.1 h
  have e1 : (x + y).tmod (n : Int) = (x + y) % n := Int.tmod_eq_emod_of_nonneg (by omega)
  have h2 := Int.emod_nonneg (x + y) (show (n : Int) ≠ 0 by omega)
  have h3 := Int.emod_lt_of_pos (x + y) (show (0 : Int) < n by omega)
  have hr : (((x + y) % (n : Int)).toNat) < (colorFold n cs).length := by rw [colorFold_len]; omega
  have hv := List.getElem?_eq_getElem hr
  have hv2 := colorFold_rng n cs _ (List.getElem_mem hr)
  refine ⟨((x + y) % n).toNat, _, by rw [e1]; omega, by rw [colorFold_len] at hr; exact hr, hv, hv2.1, by omega, ?_⟩
  rw [colorFold_snoc, bump, hv]
  rfl
set_option maxHeartbeats 2000000 in
theorem ColorCounts_i (A : Option Addr) (c : Nat) (l : List Int) (k : Int) (w : World) (hl : l.length ≤ 1048576) (hr : RdI w A l) :
    Calls Try.prog 45 #[.agg #[.slice A l.length c], .int .i64 k] w fun e w' => ∃ v, e = .returned v ∧ OwI w.heap.size w' v (colorCounts l k) ∧ Below w.heap.size w w' := by
  (have hB := Below.refl w.heap.size w; have P := Blk.new w 31 [.slice A l.length c]; have Pc := P.c1)
  have hr' := Lib.hid hr
  clear hr
  cases h : regOk l && inB k 2 4
  · rw [colorCounts, h]
    cases h1 : regOk l <;> cases h2 : inB k 2 4
    all_goals first | (exfalso; simp_all; done) | skip
    all_goals go_enter Try.func45, Try.ntmps45
    all_goals go_wp2_with (first | (go_at_call 98; refine (RegionOk_i A c l _ hl (hr'.out.below (bl_trans hB (by go_grown)))).mono ?_; rintro e wn ⟨rfl, hbn⟩; have hSz := bl_sz (bl_trans hB (by go_grown)) hbn; replace hB := bl_trans (bl_trans hB (by go_grown)) hbn; replace P := P.bel (bl_trans (by go_grown) hbn); replace Pc := P.c1; clear hbn) | (go_at_call 89; refine (within_any _ _ _ _).mono ?_; rintro e wn ⟨rfl, rfl⟩))
    all_goals go_ret
    all_goals exact ⟨_, rfl, OwI.nil_ _ _, (by first | (go_grown; done) | exact bl_trans hB (by go_grown))⟩
  · simp only [Bool.and_eq_true] at h
    obtain ⟨h1, h2⟩ := h
    have i2 := inB_true.1 h2
    obtain ⟨n, rfl⟩ : ∃ n : Nat, k = n := ⟨k.toNat, by omega⟩
    have hmk := run_make_row' (P := Try.prog) 24 3 (.int .i64 0) 8 Try.underlying24 info_int rfl .i64 .i64 n (by omega) (by omega)
    have hcc := Lib.hid (show colorCounts l n = colorFold n (regCells l) by simp [colorCounts, h1, h2])
    have n1 : ((n : Int) == 0) = false := by simp; omega
    have hcl := regCells_len l
    go_enter Try.func45, Try.ntmps45
    go_wp2_with (first | (go_at_call 98; refine (RegionOk_i A c l _ hl (hr'.out.below (bl_trans hB (by go_grown)))).mono ?_; rintro e wx ⟨rfl, hbn⟩; have hSz := bl_sz (bl_trans hB (by go_grown)) hbn; replace hB := bl_trans (bl_trans hB (by go_grown)) hbn; replace P := P.bel (bl_trans (by go_grown) hbn); replace Pc := P.c1; have P2 := P.alloc (.cells (madeCells #[.int .i64 0] n) 3); have P2c := P2.c1; have hxw := hB.size; clear hbn) | (go_at_call 89; refine (within_any _ _ _ _).mono ?_; rintro e wn ⟨rfl, rfl⟩))
    clear P2 P2c
    rw [made_list]
    have N := Blk.new wx 3 (List.replicate n (.int .i64 0))
    replace P := P.alloc (.cells (List.replicate n (.int .i64 0)).toArray 3)
    replace Pc := P.c1
    (refine (CellsOf_i A c l _ hl (hr'.out.below (bl_trans hB (by go_grown)))).mono ?_; rintro e wy ⟨v, rfl, o1, hbn⟩; have hSz := bl_sz (bl_trans hB (by go_grown)) hbn; replace hB := bl_trans (bl_trans hB (by go_grown)) hbn; replace P := P.bel (bl_trans (by go_grown) hbn); replace Pc := P.c1; replace N := N.bel hbn; clear hbn)
    have hyx := N.lt
    obtain ⟨⟨A1, c1, rfl⟩, _⟩ := id o1
    have o2 := Lib.hid (o1.mono (B' := wx.heap.size + 1) (by simp))
    clear o1
    go_wp2_with fail
    go_loopw [21] (fun i wr => ∃ j : Nat, j ≤ (regCells l).length ∧ i = .int .i64 j ∧ Blk wr wx.heap.size 3 ((colorFold n ((regCells l).take j)).map cI) ∧ OwC (wx.heap.size + 1) wr (.slice A1 (regCells l).length c1) (regCells l) ∧ Below w.heap.size w wr) (fun i _ => (regCells l).length - (intOf i).toNat)
    case atStart => exact ⟨0, by omega, rfl, by simpa [colorFold, cI] using N, o2.out, (by first | (go_grown; done) | exact bl_trans hB (by go_grown))⟩
    case round =>
      obtain ⟨j, hj, rfl, N', own, hB'⟩ := hrel
      clear P Pc N hB hmk o2
      have N := N'
      have hB := hB'
      clear N' hB'
      by_cases hlt : j < (regCells l).length
      · obtain ⟨b', off, x, y, rfl, hbl, hv, hd, _, _, hc0, hc1⟩ := own.rd.at_ hlt
        have hok : cellOk x y = true := regCells_ok (List.mem_of_getElem? hv)
        have hxy := cellOk_iff.1 hok
        have ht0 : ((regCells l).take j).length ≤ 64 := by rw [List.length_take]; omega
        obtain ⟨r, u, e1, hr1, hu, hu0, hu1, hset⟩ := bump_facts (n := n) (by omega) (by omega) ht0 hok
        have hset' := Lib.hid (show colorFold n ((regCells l).take (j + 1)) = (colorFold n ((regCells l).take j)).set r (u + 1) by rw [take_snoc_at hv]; exact hset)
        have N2 := N.alloc (.cells #[.int .i64 x, .int .i64 y] 35)
        have Q := Blk.new wr 35 [.int .i64 x, .int .i64 y]
        have Qc := Q.c2
        have hc := N2.getI hu
        have hf := N2.frozen r
        have N3 := Lib.hid (N2.setI r (u + 1))
        have own3 := Lib.hid ((own.alloc' (.cells #[.int .i64 x, .int .i64 y] 35)).set' (p := ⟨wx.heap.size, r, none⟩) (Nat.lt_succ_self _) (.int .i64 (u + 1)))
        have hB3 := Lib.hid (bl_set (bl_alloc hB (.cells #[.int .i64 x, .int .i64 y] 35)) (p := ⟨wx.heap.size, r, none⟩) hxw (.int .i64 (u + 1)))
        clear hv hd hset hu N own N2 hB
        go_wp2
        go_roundw
        case rel => exact ⟨j + 1, by omega, by go_num, by rw [hset'.out]; exact N3.out, own3.out, hB3.out⟩
        case measure => simp [intOf]; omega
      · have hkl : j = (regCells l).length := by omega
        subst hkl
        rw [List.take_length] at N
        have H := Lib.hid N
        clear N
        have hlen := colorFold_len n (regCells l)
        have hrng := colorFold_rng n (regCells l)
        go_wp2
        go_ret
        refine ⟨.slice (some ⟨wx.heap.size, 0, none⟩) n n, rfl, ?_, hB⟩
        rw [hcc.out]
        exact ⟨⟨_, _, by rw [hlen]⟩, by rw [hlen]; exact H.out.own hxw (by simp [hlen]) (by simp only [maxLen]; omega), fun x hx => by have := hrng x hx; exact ⟨by omega, by omega⟩⟩
end Go.Proofs.Ytdcjhfmkkcakhaa

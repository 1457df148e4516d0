/-
  Contracts of MatrixOf (both): what each returns, as a function of the rows; nothing that was there is written; at most 1048576 numbers.
-/
import Derived.Test.YtokclhiecaffgaaTri
import Derived.StillTailTactics
import Derived.Deep.DeepMust
namespace Go.Proofs.Ytokclhiecaffgaa
open Go.ChangeShapes Go.WideShapes Go.ChangeAt Go.RowKit Go.Deep
set_option linter.unusedVariables false

/-- one row of the matrix: how often a number is in r, less how often it is in p -/
def rowM (n : Nat) (r p : List Int) : List Int := (List.range n).map fun (j : Nat) => (r.count ((j : Int) + 1) : Int) - (p.count ((j : Int) + 1) : Int)
theorem rowM_len (n : Nat) (r p : List Int) : (rowM n r p).length = n := by simp [rowM]
theorem rowM_at {n : Nat} (r p : List Int) {j : Nat} (h : j < n) : (rowM n r p)[j]? = some ((r.count ((j : Int) + 1) : Int) - (p.count ((j : Int) + 1) : Int)) := by simp [rowM, h]
theorem rowM_nil (n : Nat) : rowM n [] [] = List.replicate n 0 := by
  apply List.ext_getElem?
  intro i
  by_cases h : i < n
  · rw [rowM_at _ _ h]; simp [h]
  · rw [List.getElem?_eq_none (by rw [rowM_len]; omega), List.getElem?_eq_none (by simp; omega)]
theorem rowM_add {n m : Nat} (r p : List Int) (hm : m < n) : (rowM n r p).set m ((r.count ((m : Int) + 1) : Int) - (p.count ((m : Int) + 1) : Int) + 1) = rowM n (r ++ [(m : Int) + 1]) p := by
  apply List.ext_getElem?
  intro i
  by_cases h : i < n
  · by_cases e : m = i
    · subst e
      rw [List.getElem?_set_self (by rw [rowM_len]; exact h), rowM_at _ _ h, List.count_append]
      simp
      omega
    · rw [List.getElem?_set_ne e, rowM_at _ _ h, rowM_at _ _ h, List.count_append]
      have : ¬ ((m : Int) + 1 = (i : Int) + 1) := by omega
      simp [this]
  · rw [List.getElem?_eq_none (by rw [List.length_set, rowM_len]; omega), List.getElem?_eq_none (by rw [rowM_len]; omega)]
theorem rowM_sub {n m : Nat} (r p : List Int) (hm : m < n) : (rowM n r p).set m ((r.count ((m : Int) + 1) : Int) - (p.count ((m : Int) + 1) : Int) - 1) = rowM n r (p ++ [(m : Int) + 1]) := by
  apply List.ext_getElem?
  intro i
  by_cases h : i < n
  · by_cases e : m = i
    · subst e
      rw [List.getElem?_set_self (by rw [rowM_len]; exact h), rowM_at _ _ h, List.count_append]
      simp
      omega
    · rw [List.getElem?_set_ne e, rowM_at _ _ h, rowM_at _ _ h, List.count_append]
      have : ¬ ((m : Int) + 1 = (i : Int) + 1) := by omega
      simp [this]
  · rw [List.getElem?_eq_none (by rw [List.length_set, rowM_len]; omega), List.getElem?_eq_none (by rw [rowM_len]; omega)]
theorem rowM_i64 {n : Nat} {r p : List Int} (hr : r.length ≤ 1000) (hp : p.length ≤ 1000) : ∀ x ∈ rowM n r p, I64 x := by
  intro x hx
  obtain ⟨j, _, rfl⟩ := List.mem_map.1 hx
  have h1 := List.count_le_length (a := (j : Int) + 1) (l := r)
  have h2 := List.count_le_length (a := (j : Int) + 1) (l := p)
  exact ⟨by omega, by omega⟩
def bef (t : List (List Int)) (k : Nat) : List Int := if k = 0 then [] else rAt t (k - 1)
def matTo (t : List (List Int)) (k : Nat) : List (List Int) := (List.range k).map fun (i : Nat) => rowM t.length (rAt t i) (bef t i)
theorem matTo_succ (t : List (List Int)) (k : Nat) : matTo t (k + 1) = matTo t k ++ [rowM t.length (rAt t k) (bef t k)] := by simp [matTo, List.range_succ]
theorem matTo_len (t : List (List Int)) (k : Nat) : (matTo t k).length = k := by simp [matTo]
def matR (t : List (List Int)) : List (List Int) := if isTri t then matTo t t.length else []
theorem tot_le {ll : List (List Int)} {b : Nat} (h : ∀ r ∈ ll, r.length ≤ b) : tot ll ≤ ll.length * b := by
  induction ll with
  | nil => simp [tot]
  | cons r ll ih =>
    rw [tot_cons, List.length_cons, Nat.succ_mul]
    have h1 := h r (by simp)
    have h2 := ih (fun y hy => h y (by simp [hy]))
    omega
theorem matTo_rows {t : List (List Int)} {k : Nat} : ∀ r ∈ matTo t k, r.length = t.length := by
  intro r hr
  obtain ⟨i, _, rfl⟩ := List.mem_map.1 hr
  exact rowM_len _ _ _
theorem isTri_iff {t : List (List Int)} : isTri t = true ↔ (1 ≤ t.length ∧ t.length ≤ 5) ∧ ∀ k < t.length, triAt t k = true := by
  rw [isTri, Bool.and_eq_true, allFrom_iff, inB_true]
  constructor
  · rintro ⟨⟨a, b⟩, c⟩; exact ⟨⟨by omega, by omega⟩, c⟩
  · rintro ⟨⟨a, b⟩, c⟩; exact ⟨⟨by omega, by omega⟩, c⟩
theorem matR_small (t : List (List Int)) : (matR t).length ≤ 5 ∧ (∀ r ∈ matR t, r.length ≤ 5) ∧ tot (matR t) ≤ 25 := by
  unfold matR
  split
  · rename_i h
    have := isTri_iff.1 h
    have h1 : ∀ r ∈ matTo t t.length, r.length ≤ 5 := fun r hr => by rw [matTo_rows r hr]; omega
    have h2 := tot_le h1
    rw [matTo_len] at h2 ⊢
    exact ⟨by omega, h1, by omega⟩
  · simp [tot]
theorem triAt_row {t : List (List Int)} {k : Nat} (h : triAt t k = true) : (rAt t k).length = k + 1 ∧ strictB (rAt t k) 1 t.length = true := by
  simp only [triAt, Bool.and_eq_true, decide_eq_true_eq] at h
  exact ⟨h.1.1, h.1.2⟩
theorem bef_tri {t : List (List Int)} (h : isTri t = true) {k : Nat} (hk : k < t.length) : (bef t k).length = k ∧ ∀ x ∈ bef t k, 1 ≤ x ∧ x ≤ t.length := by
  unfold bef
  split
  · subst_vars; simp
  · have := triAt_row ((isTri_iff.1 h).2 (k - 1) (by omega))
    refine ⟨by omega, (strictB_iff.1 this.2).2⟩
set_option maxRecDepth 100000 in
set_option maxHeartbeats 4000000 in
theorem MatrixOf_i (A : Option Addr) (N c : Nat) (t : List (List Int)) (w : World) (hN : N = t.length) (hl : N ≤ 1048576) (hll : ∀ l ∈ t, l.length ≤ 1048576) (hr : RdII w A t) :
    Calls Try.prog 38 #[.slice A N c] w fun e w' => ∃ v, e = .returned (.tuple #[v, .bool (isTri t)]) ∧ InII w.heap.size w'.heap.size w' v (matR t) ∧ Below w.heap.size w w' := by
  have HN := Lib.hid hN
  have Hr := Lib.hid hr
  have Hll := Lib.hid hll
  have hB := Below.refl w.heap.size w
  cases h1 : isTri t
  · have hv := Lib.hid (show matR t = [] by rw [matR, h1]; rfl)
    have H1 := Lib.hid h1
    clear hN hr hll
    go_enter Try.func38, Try.ntmps38
    go_wp2_with (go_at_call 35; refine (IsTriangle_i A N c t _ HN.out hl Hll.out Hr.out).mono ?_; rintro e wn ⟨rfl, hbn⟩; have hSz := bl_sz (bl_trans hB (by go_grown)) hbn; replace hB := bl_trans (bl_trans hB (by go_grown)) hbn; clear hbn)
    go_ret2
    exact ⟨_, rfl, by rw [hv.out]; exact InS.nil_ _ _ _ _ _, hB⟩
  · have i1 := isTri_iff.1 h1
    have H1 := Lib.hid h1
    have hv := Lib.hid (show matR t = matTo t N by rw [matR, h1, hN]; rfl)
    have hN5 : N ≤ 5 := by omega
    have Hrow := Lib.hid (fun k (hk : k < t.length) => triAt_row (i1.2 k hk))
    clear hN hr hll i1
    go_enter Try.func38, Try.ntmps38
    go_wp2_with (go_at_call 35; refine (IsTriangle_i A N c t _ HN.out hl Hll.out Hr.out).mono ?_; rintro e wn ⟨rfl, hbn⟩; have hSz := bl_sz (bl_trans hB (by go_grown)) hbn; replace hB := bl_trans (bl_trans hB (by go_grown)) hbn; clear hbn)
    have e1 := Lib.hid (InII.bel (InS.new_ 22 InI (lo := w.heap.size) (hi := ((wn.alloc (.cells #[] 22)).alloc (.cells #[] 3)).heap.size) (w := wn) hB.size (by simp; omega)) (w' := (wn.alloc (.cells #[] 22)).alloc (.cells #[] 3)) (by go_grown))
    have e2 := Lib.hid (OwI.new_ (B := 0) (w := wn.alloc (.cells #[] 22)) (Nat.zero_le _))
    have hB0 := bl_alloc (bl_alloc hB (.cells #[] 22)) (.cells #[] 3)
    have hmk := run_make_row' (P := Try.prog) 22 3 (.int .i64 0) 8 Try.underlying22 info_int rfl .i64 .i64 N (by omega) (by omega)
    go_loopw [4, 5, 20] (fun o bf q wr => ∃ (k : Nat) (A2 : Option Addr) (Lb c2 : Nat), k ≤ N ∧ q = .int .i64 k ∧ bf = .slice A2 Lb c2 ∧ Hid (Lb = (bef t k).length) ∧ RdI wr A2 (bef t k) ∧ InII w.heap.size wr.heap.size wr o (matTo t k) ∧ Below w.heap.size w wr) (fun _ _ q _ => N - (intOf q).toNat)
    case atStart =>
      have := e2.out.rd
      exact ⟨0, _, 0, 0, by omega, rfl, rfl, Lib.hid (by simp [bef]), by simpa [bef] using this, e1.out, hB0⟩
    case round =>
      obtain ⟨k, A2, Lb, c2, hk, rfl, rfl, HLb, hrb, hI, hB'⟩ := hrel
      obtain ⟨wo, rfl⟩ : ∃ wo : World, wo = wr := ⟨_, rfl⟩
      clear hB hB0 e1 e2
      have hB := hB'
      clear hB'
      by_cases hlt : k < N
      · obtain ⟨b, off, l, A1, c1, rfl, hb, hx, _, hrl, hc0⟩ := Hr.out.at_ (k := k) (by have := HN.out; omega)
        have hc := (hB.cell (p := ⟨b, off + k, none⟩) hb).trans hc0
        clear hc0
        have hrow := Hrow.out k (by have := HN.out; omega)
        rw [rAt_eq hx] at hrow
        have hl1 : l.length = k + 1 := hrow.1
        have hln : ∀ x ∈ l, 1 ≤ x ∧ x ≤ (N : Int) := by have := (strictB_iff.1 hrow.2).2; rw [HN.out]; exact this
        have hbf := bef_tri H1.out (k := k) (by have := HN.out; omega)
        rw [← HLb.out] at hbf
        have hms := Lib.hid (show matTo t (k + 1) = matTo t k ++ [rowM N l (bef t k)] by rw [matTo_succ, rAt_eq hx, HN.out])
        have hbf1 := Lib.hid (show l = bef t (k + 1) by rw [bef, if_neg (by omega), Nat.add_sub_cancel, rAt_eq hx])
        have hmn := rowM_nil N
        obtain ⟨L, hL⟩ : ∃ L, L = l.length := ⟨_, rfl⟩
        rw [← hL] at hc hl1
        have hL5 : L ≤ 5 := by omega
        have hLb5 : Lb ≤ 5 := by omega
        have HL := Lib.hid hL
        have Hl1 := Lib.hid hl1
        have Hln := Lib.hid hln
        have Hbn := Lib.hid hbf.2
        have Hrl := Lib.hid hrl
        have Hrb := Lib.hid hrb
        have HI := Lib.hid hI
        have hI64 := Lib.hid (rowM_i64 (n := N) (r := l) (p := bef t k) (by omega) (by have := HLb.out; omega))
        have Hmn := Lib.hid hmn
        have HB := Lib.hid hB
        have hsz := hB.size
        clear hx hrow hln hbf hmn hL hl1 hrl hrb hI hB
        go_wp2_with fail
        rw [made_list]
        go_loopw [29] (fun q wr => ∃ j : Nat, j ≤ L ∧ q = .int .i64 j ∧ Blk wr wo.heap.size 3 ((rowM N (l.take j) []).map cI) ∧ Below wo.heap.size wo wr) (fun q _ => L - (intOf q).toNat)
        case atStart => exact ⟨0, by omega, rfl, by rw [List.take_zero, Hmn.out, List.map_replicate]; exact Blk.new wo 3 (List.replicate N (.int .i64 0)), bl_alloc (Below.refl _ _) _⟩
        case round =>
          obtain ⟨j, hj, rfl, hblk, hb1⟩ := hrel
          by_cases hlt1 : j < L
          · obtain ⟨b3, off3, x, rfl, hb3, hx, _, _, cx⟩ := (Hrl.out.below (bl_trans HB.out hb1)).at_ (k := j) (by have := HL.out; omega)
            have hxr := Hln.out x (List.mem_of_getElem? hx)
            obtain ⟨m, rfl⟩ : ∃ m : Nat, x = m + 1 := ⟨(x - 1).toNat, by omega⟩
            have hm : m < N := by omega
            have cm := hblk.getI (rowM_at (l.take j) [] hm)
            have fm := hblk.frozen m
            have hset := (hblk.setI m (((l.take j).count ((m : Int) + 1) : Int) - (([] : List Int).count ((m : Int) + 1) : Int) + 1))
            rw [rowM_add _ _ hm, ← take_snoc_at hx] at hset
            have hcl := List.count_le_length (a := (m : Int) + 1) (l := l.take j)
            have hcl2 : (l.take j).length ≤ 5 := by rw [List.length_take]; omega
            have hcn : ([] : List Int).count ((m : Int) + 1) = 0 := rfl
            rw [hcn] at cm hset
            obtain ⟨v, hv1⟩ : ∃ v : Nat, v = (l.take j).count ((m : Int) + 1) := ⟨_, rfl⟩
            rw [← hv1] at cm hset hcl
            have e0 : (v : Int) - ((0 : Nat) : Int) = v := by simp
            rw [e0] at cm hset
            have Hset := Lib.hid hset
            have Hb1 := Lib.hid hb1
            clear hx hblk hset hb1 hv1 hcn e0
            go_wp2_with fail
            go_roundw
            case rel => exact ⟨j + 1, by omega, by go_num, Hset.out, Below.setCell Hb1.out (p := ⟨wo.heap.size, m, none⟩) (Nat.le_refl _) _⟩
            case measure => simp [intOf]; omega
          · obtain rfl : j = L := by omega
            have hblk2 := hblk
            rw [List.take_of_length_le (by have := HL.out; omega)] at hblk2
            obtain ⟨wi, rfl⟩ : ∃ wi : World, wi = wr := ⟨_, rfl⟩
            have Hb1 := Lib.hid hb1
            clear hblk hb1
            go_wp2_with fail
            go_loopw [43] (fun q wr => ∃ i : Nat, i ≤ Lb ∧ q = .int .i64 i ∧ Blk wr wo.heap.size 3 ((rowM N l ((bef t k).take i)).map cI) ∧ Below wo.heap.size wo wr) (fun q _ => Lb - (intOf q).toNat)
            case atStart => exact ⟨0, by omega, rfl, by rw [List.take_zero]; exact hblk2, Hb1.out⟩
            case round =>
              obtain ⟨i, hi, rfl, hblk, hb1⟩ := hrel
              clear hblk2
              by_cases hlt1 : i < Lb
              · obtain ⟨b3, off3, x, rfl, hb3, hx, _, _, cx⟩ := (Hrb.out.below hb1).at_ (k := i) (by have := HLb.out; omega)
                have hxr := Hbn.out x (List.mem_of_getElem? hx)
                rw [← HN.out] at hxr
                obtain ⟨m, rfl⟩ : ∃ m : Nat, x = m + 1 := ⟨(x - 1).toNat, by omega⟩
                have hm : m < N := by omega
                have cm := hblk.getI (rowM_at l ((bef t k).take i) hm)
                have fm := hblk.frozen m
                have hset := (hblk.setI m ((l.count ((m : Int) + 1) : Int) - (((bef t k).take i).count ((m : Int) + 1) : Int) - 1))
                rw [rowM_sub _ _ hm, ← take_snoc_at hx] at hset
                have hcl := List.count_le_length (a := (m : Int) + 1) (l := (bef t k).take i)
                have hcl2 : ((bef t k).take i).length ≤ 5 := by rw [List.length_take]; omega
                have hcl3 := List.count_le_length (a := (m : Int) + 1) (l := l)
                have hcl4 : l.length ≤ 5 := by have := HL.out; omega
                obtain ⟨v, hv1⟩ : ∃ v : Int, v = (l.count ((m : Int) + 1) : Int) - (((bef t k).take i).count ((m : Int) + 1) : Int) := ⟨_, rfl⟩
                have hvb : -5 ≤ v ∧ v ≤ 5 := by omega
                rw [← hv1] at cm hset
                have Hset := Lib.hid hset
                have Hb2 := Lib.hid hb1
                clear hx hblk hset hb1 hv1 hcl hcl2 hcl3 hcl4
                go_wp2_with fail
                go_roundw
                case rel => exact ⟨i + 1, by omega, by go_num, Hset.out, Below.setCell Hb2.out (p := ⟨wo.heap.size, m, none⟩) (Nat.le_refl _) _⟩
                case measure => simp [intOf]; omega
              · obtain rfl : i = Lb := by omega
                rw [List.take_of_length_le (by have := HLb.out; omega)] at hblk
                have hbl := hblk.lt
                have hu := hblk.inI (N := N) (by rw [rowM_len]) (by omega) hI64.out
                have Hu := Lib.hid hu
                have HI2 := Lib.hid (HI.out.bel hb1)
                have hlk : (matTo t k).length ≤ 1048576 := by rw [matTo_len]; omega
                have Hb3 := Lib.hid hb1
                clear hblk hu hb1
                go_wp2_with (at_builtin; refine wpList_apInII rfl (.tmp 55) (.tmp 57) rfl w.heap.size wo.heap.size _ (matTo t k) _ _ wo.heap.size (wo.heap.size + 1) rfl rfl HI2.out Hu.out (Nat.le_refl _) hsz (Nat.le_succ _) hbl hlk ?_; intro A3 L3 c3 w3 hL3 o3 b3 g3 s3; have HB3 := Lib.hid (b3 _ (bl_trans HB.out Hb3.out)); have HI3 := Lib.hid o3; clear o3 b3 g3)
                go_roundw
                case rel => exact ⟨k + 1, A1, j, c1, by omega, by go_num, rfl, Lib.hid (by rw [← hbf1.out]; exact HL.out), by rw [← hbf1.out]; exact Hrl.out.below HB3.out, by rw [hms.out]; exact HI3.out, HB3.out⟩
                case measure => simp [intOf]; omega
      · obtain rfl : k = N := by omega
        have HI := Lib.hid hI
        clear hI hmk
        go_wp2_with fail
        go_ret2
        exact ⟨_, rfl, by rw [hv.out]; exact HI.out, hB⟩
theorem Blk.keepT {w w' : World} {g : Nat} {E T : TypeId} {xs : List Value} {row : Option Nat} (h : Blk w g E xs) (hg : w.grownBy w' row) (ht : ∀ k, row = some k → ∃ cur fr, w.heap[k]? = some (.cells cur T fr)) (hne : E ≠ T) : Blk w' g E xs := by
  refine (hg.block g h.lt fun e => ?_).trans h
  obtain ⟨cur, fr, h2⟩ := ht g e.symm
  unfold Blk at h
  rw [h] at h2
  injection h2 with h2
  injection h2 with _ h3
  exact hne h3
theorem asc_lt {l : List Int} (h : ∀ i < l.length, ascAt l i = true) : ∀ (j : Nat) (hj : j < l.length) (i : Nat) (hi : i < l.length), i < j → l[i] < l[j] := by
  intro j
  induction j with
  | zero => intro _ i _ hij; omega
  | succ j ih =>
    intro hj i hi hij
    have h1 := h (j + 1) hj
    simp only [ascAt, Nat.add_sub_cancel, Bool.or_eq_true, decide_eq_true_eq] at h1
    rw [iAt_eq (List.getElem?_eq_getElem (by omega : j < l.length)), iAt_eq (List.getElem?_eq_getElem hj)] at h1
    rcases Nat.lt_or_ge i j with hlt | hge
    · have := ih (by omega) i hi hlt; omega
    · obtain rfl : i = j := by omega
      omega
theorem strict_nodup {l : List Int} {a b : Int} (h : strictB l a b = true) : l.Nodup := by
  refine List.pairwise_iff_getElem.2 fun i j hi hj hij => ?_
  have := asc_lt (strictB_iff.1 h).1 j hj i hi hij
  omega
def indL (n : Nat) (r : List Int) : List Int := (List.range n).map fun (j : Nat) => if ((j : Int) + 1) ∈ r then 1 else 0
theorem indL_len (n : Nat) (r : List Int) : (indL n r).length = n := by simp [indL]
theorem indL_at {n : Nat} (r : List Int) {j : Nat} (h : j < n) : (indL n r)[j]? = some (if ((j : Int) + 1) ∈ r then 1 else 0) := by simp [indL, h]
theorem indL_nil (n : Nat) : indL n [] = List.replicate n 0 := by
  apply List.ext_getElem?
  intro i
  by_cases h : i < n
  · rw [indL_at _ h]; simp [h]
  · rw [List.getElem?_eq_none (by rw [indL_len]; omega), List.getElem?_eq_none (by simp; omega)]
theorem indL_add {n m : Nat} (r : List Int) (hm : m < n) : (indL n r).set m 1 = indL n (r ++ [(m : Int) + 1]) := by
  apply List.ext_getElem?
  intro i
  by_cases h : i < n
  · by_cases e : m = i
    · subst e
      rw [List.getElem?_set_self (by rw [indL_len]; exact h), indL_at _ h]
      simp
    · rw [List.getElem?_set_ne e, indL_at _ h, indL_at _ h]
      have : ¬ ((i : Int) + 1 = (m : Int) + 1) := by omega
      simp [this]
  · rw [List.getElem?_eq_none (by rw [List.length_set, indL_len]; omega), List.getElem?_eq_none (by rw [indL_len]; omega)]
theorem indL_i64 (n : Nat) (r : List Int) : ∀ x ∈ indL n r, I64 x := by
  intro x hx
  obtain ⟨j, _, rfl⟩ := List.mem_map.1 hx
  split
  · exact ⟨by omega, by omega⟩
  · exact ⟨by omega, by omega⟩
theorem indL_row {n : Nat} {r p : List Int} (hr : r.Nodup) (hp : p.Nodup) {i : Nat} (h : i < n) : ∃ x y : Int, (indL n r)[i]? = some x ∧ (indL n p)[i]? = some y ∧ 0 ≤ x ∧ x ≤ 1 ∧ 0 ≤ y ∧ y ≤ 1 ∧ (rowM n r p).take (i + 1) = (rowM n r p).take i ++ [x - y] := by
  refine ⟨_, _, indL_at r h, indL_at p h, by split <;> omega, by split <;> omega, by split <;> omega, by split <;> omega, ?_⟩
  rw [take_snoc_at (rowM_at r p h)]
  rw [hr.count, hp.count]
  congr 2
  split <;> split <;> rfl
theorem bef_nodup {t : List (List Int)} (h : isTri t = true) {k : Nat} (hk : k < t.length) : (bef t k).Nodup := by
  unfold bef
  split
  · exact List.Pairwise.nil
  · exact strict_nodup (triAt_row ((isTri_iff.1 h).2 (k - 1) (by omega))).2
set_option maxRecDepth 100000 in
set_option maxHeartbeats 4000000 in
theorem MatrixOf_s (A : Option Addr) (N c : Nat) (t : List (List Int)) (w : World) (hN : N = t.length) (hl : N ≤ 1048576) (hll : ∀ l ∈ t, l.length ≤ 1048576) (hr : RdII w A t) :
    Calls Try.prog 37 #[.slice A N c] w fun e w' => ∃ v, e = .returned (.tuple #[v, .bool (isTri t)]) ∧ OwII w.heap.size w' v (matR t) ∧ Below w.heap.size w w' := by
  have HN := Lib.hid hN
  have Hr := Lib.hid hr
  have Hll := Lib.hid hll
  have hB := bl_alloc (Below.refl w.heap.size w) (.cells #[] 22)
  have e0 := Lib.hid (OwS.new_ 22 (OwI 0) (B := w.heap.size) (w := w) (Nat.le_refl _))
  cases h1 : isTri t
  · have hv := Lib.hid (show matR t = [] by rw [matR, h1]; rfl)
    have H1 := Lib.hid h1
    clear hN hr hll
    go_enter Try.func37, Try.ntmps37
    go_wp2_with (go_at_call 33; refine (IsTriangle_s A N c t _ HN.out hl Hll.out (Hr.out.below (by go_grown))).mono ?_; rintro e wn ⟨rfl, hbn⟩; have e1 := Lib.hid (OwS.bel fam_I e0.out hbn); replace hB := bl_trans hB hbn; clear hbn)
    go_ret2
    exact ⟨_, rfl, by rw [hv.out]; exact e1.out, hB⟩
  · have i1 := isTri_iff.1 h1
    have H1 := Lib.hid h1
    have hv := Lib.hid (show matR t = matTo t N by rw [matR, h1, hN]; rfl)
    have hN5 : N ≤ 5 := by omega
    have Hrow := Lib.hid (fun k (hk : k < t.length) => triAt_row (i1.2 k hk))
    have hmk := run_make_row' (P := Try.prog) 22 3 (.int .i64 0) 8 Try.underlying22 info_int rfl .i64 .i64 N (by omega) (by omega)
    clear hN hr hll i1
    go_enter Try.func37, Try.ntmps37
    go_wp2_with (go_at_call 33; refine (IsTriangle_s A N c t _ HN.out hl Hll.out (Hr.out.below (by go_grown))).mono ?_; rintro e wn ⟨rfl, hbn⟩; have e1 := Lib.hid (OwS.bel fam_I e0.out hbn); replace hB := bl_trans hB hbn; clear hbn)
    rw [made_list]
    go_loopw [4, 6, 7] (fun o bf q wr => ∃ (k gb : Nat), k ≤ N ∧ q = .int .i64 k ∧ bf = .slice (some ⟨gb, 0, none⟩) N N ∧ Blk wr gb 3 ((indL N (bef t k)).map cI) ∧ OwII w.heap.size wr o (matTo t k) ∧ Below w.heap.size w wr) (fun _ _ q _ => N - (intOf q).toNat)
    case atStart =>
      refine ⟨0, wn.heap.size, by omega, rfl, rfl, ?_, (OwS.bel fam_I e1.out (by go_grown)), bl_alloc hB _⟩
      rw [show bef t 0 = [] from rfl, indL_nil, List.map_replicate]
      exact Blk.new wn 3 (List.replicate N (.int .i64 0))
    case round =>
      obtain ⟨k, gb, hk, rfl, rfl, hgb, hI, hB'⟩ := hrel
      obtain ⟨wo, rfl⟩ : ∃ wo : World, wo = wr := ⟨_, rfl⟩
      clear hB e1
      have hB := hB'
      clear hB'
      by_cases hlt : k < N
      · obtain ⟨b, off, l, A1, c1, rfl, hb, hx, _, hrl, hc0⟩ := Hr.out.at_ (k := k) (by have := HN.out; omega)
        have hc := (hB.cell (p := ⟨b, off + k, none⟩) hb).trans hc0
        clear hc0
        have hrow := Hrow.out k (by have := HN.out; omega)
        rw [rAt_eq hx] at hrow
        have hl1 : l.length = k + 1 := hrow.1
        have hln : ∀ x ∈ l, 1 ≤ x ∧ x ≤ (N : Int) := by have := (strictB_iff.1 hrow.2).2; rw [HN.out]; exact this
        have Hnd := Lib.hid (strict_nodup hrow.2)
        have Hnp := Lib.hid (bef_nodup H1.out (k := k) (by have := HN.out; omega))
        have hms := Lib.hid (show matTo t (k + 1) = matTo t k ++ [rowM N l (bef t k)] by rw [matTo_succ, rAt_eq hx, HN.out])
        have hbf1 := Lib.hid (show l = bef t (k + 1) by rw [bef, if_neg (by omega), Nat.add_sub_cancel, rAt_eq hx])
        have hbl5 := (bef_tri H1.out (k := k) (by have := HN.out; omega)).1
        obtain ⟨L, hL⟩ : ∃ L, L = l.length := ⟨_, rfl⟩
        rw [← hL] at hc hl1
        have hL5 : L ≤ 5 := by omega
        have HL := Lib.hid hL
        have Hln := Lib.hid hln
        have Hrl := Lib.hid hrl
        have HI := Lib.hid hI
        have Hgb := Lib.hid hgb
        have hI64 := Lib.hid (rowM_i64 (n := N) (r := l) (p := bef t k) (by omega) (by omega))
        have HB := Lib.hid hB
        have hsz := hB.size
        have hbo : b < wo.heap.size := by omega
        have er := Lib.hid (OwI.new_ (B := wo.heap.size + 1) (w := wo.alloc (.cells (List.replicate N (Value.int .i64 0)).toArray 3)) (by simp))
        clear hx hrow hln hL hl1 hrl hI hB hgb hbl5
        go_wp2_with fail
        rw [made_list]
        go_loopw [10] (fun q wr => ∃ j : Nat, j ≤ L ∧ q = .int .i64 j ∧ Blk wr wo.heap.size 3 ((indL N (l.take j)).map cI) ∧ OwI (wo.heap.size + 1) wr (.slice (some ⟨wo.heap.size + 1, 0, none⟩) 0 0) [] ∧ Below wo.heap.size wo wr) (fun q _ => L - (intOf q).toNat)
        case atStart => exact ⟨0, by omega, rfl, by rw [List.take_zero, indL_nil, List.map_replicate]; exact (Blk.new wo 3 (List.replicate N (.int .i64 0))).alloc _, by have := er.out; rw [World.size_alloc] at this; exact this, bl_alloc (bl_alloc (Below.refl _ _) _) _⟩
        case round =>
          obtain ⟨j, hj, rfl, hblk, hor, hb1⟩ := hrel
          have hcr := (hb1.cell (p := ⟨b, off + k, none⟩) hbo).trans hc
          by_cases hlt1 : j < L
          · obtain ⟨b3, off3, x, rfl, hb3, hx, _, _, cx⟩ := (Hrl.out.below (bl_trans HB.out hb1)).at_ (k := j) (by have := HL.out; omega)
            have hxr := Hln.out x (List.mem_of_getElem? hx)
            obtain ⟨m, rfl⟩ : ∃ m : Nat, x = m + 1 := ⟨(x - 1).toNat, by omega⟩
            have hm : m < N := by omega
            have cm := hblk.getI (indL_at (l.take j) hm)
            have fm := hblk.frozen m
            have hset := (hblk.setI m 1)
            rw [indL_add _ hm, ← take_snoc_at hx] at hset
            have Hset := Lib.hid hset
            have Hb1 := Lib.hid hb1
            have Hor := Lib.hid hor
            clear hx hblk hset hb1 hor
            go_wp2_with fail
            go_roundw
            case rel => exact ⟨j + 1, by omega, by go_num, Hset.out, Hor.out.set' (p := ⟨wo.heap.size, m, none⟩) (Nat.lt_succ_self _) _, Below.setCell Hb1.out (p := ⟨wo.heap.size, m, none⟩) (Nat.le_refl _) _⟩
            case measure => simp [intOf]; omega
          · obtain rfl : j = L := by omega
            rw [List.take_of_length_le (by have := HL.out; omega)] at hblk
            obtain ⟨wi, rfl⟩ : ∃ wi : World, wi = wr := ⟨_, rfl⟩
            have Hblk := Lib.hid hblk
            have Hor := Lib.hid hor
            have Hb1 := Lib.hid hb1
            clear hblk hor hb1
            go_wp2_with fail
            go_loopw [9, 11] (fun rv q wr => ∃ i : Nat, i ≤ N ∧ q = .int .i64 i ∧ OwI (wo.heap.size + 1) wr rv ((rowM N l (bef t k)).take i) ∧ Blk wr wo.heap.size 3 ((indL N l).map cI) ∧ Below wo.heap.size wo wr) (fun _ q _ => N - (intOf q).toNat)
            case atStart => exact ⟨0, by omega, rfl, Hor.out, Hblk.out, Hb1.out⟩
            case round =>
              obtain ⟨i, hi, rfl, hor, hblk, hb1⟩ := hrel
              clear Hor Hblk Hb1
              by_cases hlt1 : i < N
              · obtain ⟨x, y, hx, hy, hx0, hx1, hy0, hy1, hrow⟩ := indL_row Hnd.out Hnp.out hlt1
                have cx := hblk.getI hx
                have cy := (Hgb.out.below hb1 Hgb.out.lt).getI hy
                have Hor := Lib.hid hor
                have Hblk := Lib.hid hblk
                have Hb1 := Lib.hid hb1
                have Hrow2 := Lib.hid hrow
                have Hx := Lib.hid hx
                have Hy := Lib.hid hy
                have hti : ((rowM N l (bef t k)).take i).length ≤ 1048576 := by rw [List.length_take, rowM_len]; omega
                have hwr : IntKind.i64.wrap (x - y) = x - y := IntWalk.i64_in _ (by omega)
                have hsz2 : wo.heap.size + 1 ≤ wr.heap.size := hblk.lt
                have hW := Below.refl wr.heap.size wr
                clear hor hblk hb1 hx hy hrow
                go_wp2_with fail
                go_region_held3 (fun w' => w'.cell? ⟨wo.heap.size, i, none⟩ = some (.int .i64 x) ∧ w'.cell? ⟨gb, i, none⟩ = some (.int .i64 y)) (go_keep)
                  ((refine step_as1Id (by rfl) (.tmp 53) (.tmp 63) (by rfl) (wo.heap.size + 1) _ _ _ (by rfl) (by rfl) (by exact Hor.out.bel (by go_grown)) (by exact hsz2) hti ⟨by omega, by omega⟩ ?_; intro A3 L3 c3 w3 hL3 o3 b3 g3 s3; have P3 := (Hblk.out.bel (by go_grown)).below (b3 _ (Below.refl _ _)) (Nat.lt_succ_self _); have cx3 := P3.getI Hx.out; have HB3 := Lib.hid (show Below wo.heap.size wo w3 from (Hb1.out.trans (((b3 wr (by go_grown)).mono (Nat.le_succ _))))); have cy3 := (Hgb.out.below HB3.out Hgb.out.lt).getI Hy.out; have HP3 := Lib.hid P3; have HO3 := Lib.hid o3; clear o3 b3 g3 P3))
                go_wp2_with fail
                go_roundw
                case rel => exact ⟨i + 1, by omega, by go_num, by rw [Hrow2.out]; exact HO3.out, HP3.out, HB3.out⟩
                case measure => simp [intOf]; omega
              · obtain rfl : i = N := by omega
                rw [List.take_of_length_le (by rw [rowM_len]; omega)] at hor
                obtain ⟨⟨A3, c3, rfl⟩, _⟩ := id hor
                have HI2 := Lib.hid (OwII.bel HI.out hb1)
                have Hor := Lib.hid (hor.mono (Nat.zero_le _))
                have Hblk := Lib.hid hblk
                have hlk : (matTo t k).length ≤ 1048576 := by rw [matTo_len]; omega
                have hsz3 : w.heap.size ≤ wr.heap.size := Nat.le_trans hsz hb1.size
                have Hb1 := Lib.hid hb1
                clear hor hblk hb1
                go_wp2_with (at_builtin; refine wpList_apII rfl (.tmp 65) (.tmp 67) rfl w.heap.size _ (matTo t k) _ _ rfl rfl HI2.out Hor.out hsz3 hlk ?_; intro A4 L4 c4 w4 hL4 o4 b4 g4 s4; have HB4 := Lib.hid (b4 _ (bl_trans HB.out Hb1.out)); have HI4 := Lib.hid o4; have HP4 := Lib.hid (Hblk.out.keepT g4 (OwS.typ HI2.out) (by decide)); clear o4 b4 g4)
                go_roundw
                case rel => exact ⟨k + 1, wo.heap.size, by omega, by go_num, rfl, by rw [← hbf1.out]; exact HP4.out, by rw [hms.out]; exact HI4.out, HB4.out⟩
                case measure => simp [intOf]; omega
      · obtain rfl : k = N := by omega
        have HI := Lib.hid hI
        clear hI hmk
        go_wp2_with fail
        go_ret2
        exact ⟨_, rfl, by rw [hv.out]; exact HI.out, hB⟩
end Go.Proofs.Ytokclhiecaffgaa

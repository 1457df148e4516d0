/-
  Contracts of MatrixOf (both): what each returns, as a function of the rows; nothing that was there is written; at most 1048576 numbers.
-/
import Derived.Test.YtdcjhfmkkcakhaaTri
import Derived.StillTailTactics
import Derived.Deep.DeepMust
namespace Go.Proofs.Ytdcjhfmkkcakhaa
open Go.ChangeShapes Go.WideShapes Go.ChangeAt Go.RowKit Go.Deep
set_option linter.unusedVariables false

/-- one row of the matrix: how often a number is in r, less how often it is in p -/
def rowM (n : Nat) (r p : List Int) : List Int := (List.range n).map fun (j : Nat) => (r.count ((j : Int) + 1) : Int) - (p.count ((j : Int) + 1) : Int)
theorem rowM_len (n : Nat) (r p : List Int) : (rowM n r p).length = n := by simp [rowM]
theorem rowM_at {n : Nat} (r p : List Int) {j : Nat} (h : j < n) : (rowM n r p)[j]? = some ((r.count ((j : Int) + 1) : Int) - (p.count ((j : Int) + 1) : Int)) := by simp [rowM, h]
theorem rowM_nil (n : Nat) : rowM n [] [] = List.replicate n 0 := by
  apply List.ext_getElem?
  intro i
  by_cases h : i < n
  · rw [rowM_at _ _ h]; simp [h]
  · rw [List.getElem?_eq_none (by rw [rowM_len]; omega), List.getElem?_eq_none (by simp; omega)]
theorem rowM_add {n m : Nat} (r p : List Int) (hm : m < n) : (rowM n r p).set m ((r.count ((m : Int) + 1) : Int) - (p.count ((m : Int) + 1) : Int) + 1) = rowM n (r ++ [(m : Int) + 1]) p := by
  apply List.ext_getElem?
  intro i
  by_cases h : i < n
  · by_cases e : m = i
    · subst e
      rw [List.getElem?_set_self (by rw [rowM_len]; exact h), rowM_at _ _ h, List.count_append]
      simp
      omega
    · rw [List.getElem?_set_ne e, rowM_at _ _ h, rowM_at _ _ h, List.count_append]
      have : ¬ ((m : Int) + 1 = (i : Int) + 1) := by omega
      simp [this]
  · rw [List.getElem?_eq_none (by rw [List.length_set, rowM_len]; omega), List.getElem?_eq_none (by rw [rowM_len]; omega)]
theorem rowM_sub {n m : Nat} (r p : List Int) (hm : m < n) : (rowM n r p).set m ((r.count ((m : Int) + 1) : Int) - (p.count ((m : Int) + 1) : Int) - 1) = rowM n r (p ++ [(m : Int) + 1]) := by
  apply List.ext_getElem?
  intro i
  by_cases h : i < n
  · by_cases e : m = i
    · subst e
      rw [List.getElem?_set_self (by rw [rowM_len]; exact h), rowM_at _ _ h, List.count_append]
      simp
      omega
    · rw [List.getElem?_set_ne e, rowM_at _ _ h, rowM_at _ _ h, List.count_append]
      have : ¬ ((m : Int) + 1 = (i : Int) + 1) := by omega
      simp [this]
  · rw [List.getElem?_eq_none (by rw [List.length_set, rowM_len]; omega), List.getElem?_eq_none (by rw [rowM_len]; omega)]
theorem rowM_i64 {n : Nat} {r p : List Int} (hr : r.length ≤ 1000) (hp : p.length ≤ 1000) : ∀ x ∈ rowM n r p, I64 x := by
  intro x hx
  obtain ⟨j, _, rfl⟩ := List.mem_map.1 hx
  have h1 := List.count_le_length (a := (j : Int) + 1) (l := r)
  have h2 := List.count_le_length (a := (j : Int) + 1) (l := p)
  exact ⟨by omega, by omega⟩
def bef (t : List (List Int)) (k : Nat) : List Int := if k = 0 then [] else rAt t (k - 1)
def matTo (t : List (List Int)) (k : Nat) : List (List Int) := (List.range k).map fun (i : Nat) => rowM t.length (rAt t i) (bef t i)
theorem matTo_succ (t : List (List Int)) (k : Nat) : matTo t (k + 1) = matTo t k ++ [rowM t.length (rAt t k) (bef t k)] := by simp [matTo, List.range_succ]
theorem matTo_len (t : List (List Int)) (k : Nat) : (matTo t k).length = k := by simp [matTo]
def matR (t : List (List Int)) : List (List Int) := if isTri t then matTo t t.length else []
theorem tot_le {ll : List (List Int)} {b : Nat} (h : ∀ r ∈ ll, r.length ≤ b) : tot ll ≤ ll.length * b := by
  induction ll with
  | nil => simp [tot]
  | cons r ll ih =>
    rw [tot_cons, List.length_cons, Nat.succ_mul]
    have h1 := h r (by simp)
    have h2 := ih (fun y hy => h y (by simp [hy]))
    omega
theorem matTo_rows {t : List (List Int)} {k : Nat} : ∀ r ∈ matTo t k, r.length = t.length := by
  intro r hr
  obtain ⟨i, _, rfl⟩ := List.mem_map.1 hr
  exact rowM_len _ _ _
theorem isTri_iff {t : List (List Int)} : isTri t = true ↔ (1 ≤ t.length ∧ t.length ≤ 5) ∧ ∀ k < t.length, triAt t k = true := by
  rw [isTri, Bool.and_eq_true, allFrom_iff, inB_true]
  constructor
  · rintro ⟨⟨a, b⟩, c⟩; exact ⟨⟨by omega, by omega⟩, c⟩
  · rintro ⟨⟨a, b⟩, c⟩; exact ⟨⟨by omega, by omega⟩, c⟩
theorem matR_small (t : List (List Int)) : (matR t).length ≤ 5 ∧ (∀ r ∈ matR t, r.length ≤ 5) ∧ tot (matR t) ≤ 25 := by
  unfold matR
  split
  · rename_i h
    have := isTri_iff.1 h
    have h1 : ∀ r ∈ matTo t t.length, r.length ≤ 5 := fun r hr => by rw [matTo_rows r hr]; omega
    have h2 := tot_le h1
    rw [matTo_len] at h2 ⊢
    exact ⟨by omega, h1, by omega⟩
  · simp [tot]
theorem triAt_row {t : List (List Int)} {k : Nat} (h : triAt t k = true) : (rAt t k).length = k + 1 ∧ strictB (rAt t k) 1 t.length = true := by
  simp only [triAt, Bool.and_eq_true, decide_eq_true_eq] at h
  exact ⟨h.1.1, h.1.2⟩
theorem bef_tri {t : List (List Int)} (h : isTri t = true) {k : Nat} (hk : k < t.length) : (bef t k).length = k ∧ ∀ x ∈ bef t k, 1 ≤ x ∧ x ≤ t.length := by
  unfold bef
  split
  · subst_vars; simp
  · have := triAt_row ((isTri_iff.1 h).2 (k - 1) (by omega))
    refine ⟨by omega, (strictB_iff.1 this.2).2⟩
set_option maxRecDepth 100000 in
set_option maxHeartbeats 4000000 in
theorem MatrixOf_i (A : Option Addr) (N c : Nat) (t : List (List Int)) (w : World) (hN : N = t.length) (hl : N ≤ 1048576) (hll : ∀ l ∈ t, l.length ≤ 1048576) (hr : RdII w A t) :
    Calls Try.prog 64 #[.slice A N c] w fun e w' => ∃ v, e = .returned (.tuple #[v, .bool (isTri t)]) ∧ InII w.heap.size w'.heap.size w' v (matR t) ∧ Below w.heap.size w w' := by
  have HN := Lib.hid hN
  have Hr := Lib.hid hr
  have Hll := Lib.hid hll
  have hB := Below.refl w.heap.size w
  cases h1 : isTri t
  · have hv := Lib.hid (show matR t = [] by rw [matR, h1]; rfl)
    have H1 := Lib.hid h1
    clear hN hr hll
    go_enter Try.func64, Try.ntmps64
    go_wp2_with (go_at_call 65; refine (IsTriangle_i A N c t _ HN.out hl Hll.out Hr.out).mono ?_; rintro e wn ⟨rfl, hbn⟩; have hSz := bl_sz (bl_trans hB (by go_grown)) hbn; replace hB := bl_trans (bl_trans hB (by go_grown)) hbn; clear hbn)
    go_ret2
    exact ⟨_, rfl, by rw [hv.out]; exact InS.nil_ _ _ _ _ _, hB⟩
  · have i1 := isTri_iff.1 h1
    have H1 := Lib.hid h1
    have hv := Lib.hid (show matR t = matTo t N by rw [matR, h1, hN]; rfl)
    have hN5 : N ≤ 5 := by omega
    have Hrow := Lib.hid (fun k (hk : k < t.length) => triAt_row (i1.2 k hk))
    clear hN hr hll i1
    go_enter Try.func64, Try.ntmps64
    go_wp2_with (go_at_call 65; refine (IsTriangle_i A N c t _ HN.out hl Hll.out Hr.out).mono ?_; rintro e wn ⟨rfl, hbn⟩; have hSz := bl_sz (bl_trans hB (by go_grown)) hbn; replace hB := bl_trans (bl_trans hB (by go_grown)) hbn; clear hbn)
    have e1 := Lib.hid (InII.bel (InS.new_ 24 InI (lo := w.heap.size) (hi := ((wn.alloc (.cells #[] 24)).alloc (.cells #[] 3)).heap.size) (w := wn) hB.size (by simp; omega)) (w' := (wn.alloc (.cells #[] 24)).alloc (.cells #[] 3)) (by go_grown))
    have e2 := Lib.hid (OwI.new_ (B := 0) (w := wn.alloc (.cells #[] 24)) (Nat.zero_le _))
    have hB0 := bl_alloc (bl_alloc hB (.cells #[] 24)) (.cells #[] 3)
    have hmk := run_make_row' (P := Try.prog) 24 3 (.int .i64 0) 8 Try.underlying24 info_int rfl .i64 .i64 N (by omega) (by omega)
    go_loopw [4, 5, 20] (fun o bf q wr => ∃ (k : Nat) (A2 : Option Addr) (Lb c2 : Nat), k ≤ N ∧ q = .int .i64 k ∧ bf = .slice A2 Lb c2 ∧ Hid (Lb = (bef t k).length) ∧ RdI wr A2 (bef t k) ∧ InII w.heap.size wr.heap.size wr o (matTo t k) ∧ Below w.heap.size w wr) (fun _ _ q _ => N - (intOf q).toNat)
    case atStart =>
      have := e2.out.rd
      exact ⟨0, _, 0, 0, by omega, rfl, rfl, Lib.hid (by simp [bef]), by simpa [bef] using this, e1.out, hB0⟩
    case round =>
      obtain ⟨k, A2, Lb, c2, hk, rfl, rfl, HLb, hrb, hI, hB'⟩ := hrel
      obtain ⟨wo, rfl⟩ : ∃ wo : World, wo = wr := ⟨_, rfl⟩
      clear hB hB0 e1 e2
      have hB := hB'
      clear hB'
      by_cases hlt : k < N
      · obtain ⟨b, off, l, A1, c1, rfl, hb, hx, _, hrl, hc0⟩ := Hr.out.at_ (k := k) (by have := HN.out; omega)
        have hc := (hB.cell (p := ⟨b, off + k, none⟩) hb).trans hc0
        clear hc0
        have hrow := Hrow.out k (by have := HN.out; omega)
        rw [rAt_eq hx] at hrow
        have hl1 : l.length = k + 1 := hrow.1
        have hln : ∀ x ∈ l, 1 ≤ x ∧ x ≤ (N : Int) := by have := (strictB_iff.1 hrow.2).2; rw [HN.out]; exact this
        have hbf := bef_tri H1.out (k := k) (by have := HN.out; omega)
        rw [← HLb.out] at hbf
        have hms := Lib.hid (show matTo t (k + 1) = matTo t k ++ [rowM N l (bef t k)] by rw [matTo_succ, rAt_eq hx, HN.out])
        have hbf1 := Lib.hid (show l = bef t (k + 1) by rw [bef, if_neg (by omega), Nat.add_sub_cancel, rAt_eq hx])
        have hmn := rowM_nil N
        obtain ⟨L, hL⟩ : ∃ L, L = l.length := ⟨_, rfl⟩
        rw [← hL] at hc hl1
        have hL5 : L ≤ 5 := by omega
        have hLb5 : Lb ≤ 5 := by omega
        have HL := Lib.hid hL
        have Hl1 := Lib.hid hl1
        have Hln := Lib.hid hln
        have Hbn := Lib.hid hbf.2
        have Hrl := Lib.hid hrl
        have Hrb := Lib.hid hrb
        have HI := Lib.hid hI
        have hI64 := Lib.hid (rowM_i64 (n := N) (r := l) (p := bef t k) (by omega) (by have := HLb.out; omega))
        have Hmn := Lib.hid hmn
        have HB := Lib.hid hB
        have hsz := hB.size
        clear hx hrow hln hbf hmn hL hl1 hrl hrb hI hB
        go_wp2_with fail
        rw [made_list]
        go_loopw [29] (fun q wr => ∃ j : Nat, j ≤ L ∧ q = .int .i64 j ∧ Blk wr wo.heap.size 3 ((rowM N (l.take j) []).map cI) ∧ Below wo.heap.size wo wr) (fun q _ => L - (intOf q).toNat)
        case atStart => exact ⟨0, by omega, rfl, by rw [List.take_zero, Hmn.out, List.map_replicate]; exact Blk.new wo 3 (List.replicate N (.int .i64 0)), bl_alloc (Below.refl _ _) _⟩
        case round =>
          obtain ⟨j, hj, rfl, hblk, hb1⟩ := hrel
          by_cases hlt1 : j < L
          · obtain ⟨b3, off3, x, rfl, hb3, hx, _, _, cx⟩ := (Hrl.out.below (bl_trans HB.out hb1)).at_ (k := j) (by have := HL.out; omega)
            have hxr := Hln.out x (List.mem_of_getElem? hx)
            obtain ⟨m, rfl⟩ : ∃ m : Nat, x = m + 1 := ⟨(x - 1).toNat, by omega⟩
            have hm : m < N := by omega
            have cm := hblk.getI (rowM_at (l.take j) [] hm)
            have fm := hblk.frozen m
            have hset := (hblk.setI m (((l.take j).count ((m : Int) + 1) : Int) - (([] : List Int).count ((m : Int) + 1) : Int) + 1))
            rw [rowM_add _ _ hm, ← take_snoc_at hx] at hset
            have hcl := List.count_le_length (a := (m : Int) + 1) (l := l.take j)
            have hcl2 : (l.take j).length ≤ 5 := by rw [List.length_take]; omega
            have hcn : ([] : List Int).count ((m : Int) + 1) = 0 := rfl
            rw [hcn] at cm hset
            obtain ⟨v, hv1⟩ : ∃ v : Nat, v = (l.take j).count ((m : Int) + 1) := ⟨_, rfl⟩
            rw [← hv1] at cm hset hcl
            have e0 : (v : Int) - ((0 : Nat) : Int) = v := by simp
            rw [e0] at cm hset
            have Hset := Lib.hid hset
            have Hb1 := Lib.hid hb1
            clear hx hblk hset hb1 hv1 hcn e0
            go_wp2_with fail
            go_roundw
            case rel => exact ⟨j + 1, by omega, by go_num, Hset.out, Below.setCell Hb1.out (p := ⟨wo.heap.size, m, none⟩) (Nat.le_refl _) _⟩
            case measure => simp [intOf]; omega
          · obtain rfl : j = L := by omega
            have hblk2 := hblk
            rw [List.take_of_length_le (by have := HL.out; omega)] at hblk2
            obtain ⟨wi, rfl⟩ : ∃ wi : World, wi = wr := ⟨_, rfl⟩
            have Hb1 := Lib.hid hb1
            clear hblk hb1
            go_wp2_with fail
            go_loopw [43] (fun q wr => ∃ i : Nat, i ≤ Lb ∧ q = .int .i64 i ∧ Blk wr wo.heap.size 3 ((rowM N l ((bef t k).take i)).map cI) ∧ Below wo.heap.size wo wr) (fun q _ => Lb - (intOf q).toNat)
            case atStart => exact ⟨0, by omega, rfl, by rw [List.take_zero]; exact hblk2, Hb1.out⟩
            case round =>
              obtain ⟨i, hi, rfl, hblk, hb1⟩ := hrel
              clear hblk2
              by_cases hlt1 : i < Lb
              · obtain ⟨b3, off3, x, rfl, hb3, hx, _, _, cx⟩ := (Hrb.out.below hb1).at_ (k := i) (by have := HLb.out; omega)
                have hxr := Hbn.out x (List.mem_of_getElem? hx)
                rw [← HN.out] at hxr
                obtain ⟨m, rfl⟩ : ∃ m : Nat, x = m + 1 := ⟨(x - 1).toNat, by omega⟩
                have hm : m < N := by omega
                have cm := hblk.getI (rowM_at l ((bef t k).take i) hm)
                have fm := hblk.frozen m
                have hset := (hblk.setI m ((l.count ((m : Int) + 1) : Int) - (((bef t k).take i).count ((m : Int) + 1) : Int) - 1))
                rw [rowM_sub _ _ hm, ← take_snoc_at hx] at hset
                have hcl := List.count_le_length (a := (m : Int) + 1) (l := (bef t k).take i)
                have hcl2 : ((bef t k).take i).length ≤ 5 := by rw [List.length_take]; omega
                have hcl3 := List.count_le_length (a := (m : Int) + 1) (l := l)
                have hcl4 : l.length ≤ 5 := by have := HL.out; omega
                obtain ⟨v, hv1⟩ : ∃ v : Int, v = (l.count ((m : Int) + 1) : Int) - (((bef t k).take i).count ((m : Int) + 1) : Int) := ⟨_, rfl⟩
                have hvb : -5 ≤ v ∧ v ≤ 5 := by omega
                rw [← hv1] at cm hset
                have Hset := Lib.hid hset
                have Hb2 := Lib.hid hb1
                clear hx hblk hset hb1 hv1 hcl hcl2 hcl3 hcl4
                go_wp2_with fail
                go_roundw
                case rel => exact ⟨i + 1, by omega, by go_num, Hset.out, Below.setCell Hb2.out (p := ⟨wo.heap.size, m, none⟩) (Nat.le_refl _) _⟩
                case measure => simp [intOf]; omega
              · obtain rfl : i = Lb := by omega
                rw [List.take_of_length_le (by have := HLb.out; omega)] at hblk
                have hbl := hblk.lt
                have hu := hblk.inI (N := N) (by rw [rowM_len]) (by omega) hI64.out
                have Hu := Lib.hid hu
                have HI2 := Lib.hid (HI.out.bel hb1)
                have hlk : (matTo t k).length ≤ 1048576 := by rw [matTo_len]; omega
                have Hb3 := Lib.hid hb1
                clear hblk hu hb1
                go_wp2_with (at_builtin; refine wpList_apInII rfl (.tmp 55) (.tmp 57) rfl w.heap.size wo.heap.size _ (matTo t k) _ _ wo.heap.size (wo.heap.size + 1) rfl rfl HI2.out Hu.out (Nat.le_refl _) hsz (Nat.le_succ _) hbl hlk ?_; intro A3 L3 c3 w3 hL3 o3 b3 g3 s3; have HB3 := Lib.hid (b3 _ (bl_trans HB.out Hb3.out)); have HI3 := Lib.hid o3; clear o3 b3 g3)
                go_roundw
                case rel => exact ⟨k + 1, A1, j, c1, by omega, by go_num, rfl, Lib.hid (by rw [← hbf1.out]; exact HL.out), by rw [← hbf1.out]; exact Hrl.out.below HB3.out, by rw [hms.out]; exact HI3.out, HB3.out⟩
                case measure => simp [intOf]; omega
      · obtain rfl : k = N := by omega
        have HI := Lib.hid hI
        clear hI hmk
        go_wp2_with fail
        go_ret2
        exact ⟨_, rfl, by rw [hv.out]; exact HI.out, hB⟩
end Go.Proofs.Ytdcjhfmkkcakhaa

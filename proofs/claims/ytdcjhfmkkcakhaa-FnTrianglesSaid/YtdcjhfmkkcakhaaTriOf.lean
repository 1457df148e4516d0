/-
  Contracts of TriangleOf (both): what each returns, as a function of the rows; nothing that was there is written; at most 1048576 numbers.
-/
import Derived.Test.YtdcjhfmkkcakhaaAlt
import Derived.Deep.DeepCutAuto
import Derived.RegionTactic
import Derived.StillTailTactics
import Derived.ChangeAlike
namespace Go.Proofs.Ytdcjhfmkkcakhaa
open Go.ChangeShapes Go.WideShapes Go.ChangeAt Go.RowKit Go.Deep
set_option linter.unusedVariables false

/-- the sum of the first i numbers of column j -/
def csum (m : List (List Int)) (i j : Nat) : Int := ((m.take i).map fun r => iAt r j).sum
theorem csum_succ {m : List (List Int)} {i j : Nat} {r : List Int} (h : m[i]? = some r) : csum m (i + 1) j = csum m i j + iAt r j := by
  rw [csum, take_snoc_at h]; simp [csum]
/-- the sums in the midst of row i: k columns are done -/
def mixS (m : List (List Int)) (n i k : Nat) : List Int := (List.range n).map fun (j : Nat) => if j < k then csum m (i + 1) j else csum m i j
theorem mixS_len (m : List (List Int)) (n i k : Nat) : (mixS m n i k).length = n := by simp [mixS]
theorem mixS_at (m : List (List Int)) {n i k j : Nat} (h : j < n) : (mixS m n i k)[j]? = some (if j < k then csum m (i + 1) j else csum m i j) := by simp [mixS, h]
theorem mixS_set (m : List (List Int)) {n i k : Nat} (h : k < n) : (mixS m n i k).set k (csum m (i + 1) k) = mixS m n i (k + 1) := by
  apply List.ext_getElem?
  intro j
  by_cases hj : j < n
  · by_cases e : k = j
    · subst e
      rw [List.getElem?_set_self (by rw [mixS_len]; exact h), mixS_at m hj]
      simp
    · rw [List.getElem?_set_ne e, mixS_at m hj, mixS_at m hj]
      have : j < k ↔ j < k + 1 := by omega
      simp [this]
  · rw [List.getElem?_eq_none (by rw [List.length_set, mixS_len]; omega), List.getElem?_eq_none (by rw [mixS_len]; omega)]
theorem mixS_next (m : List (List Int)) (n i : Nat) : mixS m n i n = mixS m n (i + 1) 0 := by
  apply List.ext_getElem?
  intro j
  by_cases hj : j < n
  · rw [mixS_at m hj, mixS_at m hj]; simp [hj]
  · rw [List.getElem?_eq_none (by rw [mixS_len]; omega), List.getElem?_eq_none (by rw [mixS_len]; omega)]
theorem mixS_zero (m : List (List Int)) (n : Nat) : mixS m n 0 0 = List.replicate n 0 := by
  apply List.ext_getElem?
  intro j
  by_cases hj : j < n
  · rw [mixS_at m hj]; simp [hj, csum]
  · rw [List.getElem?_eq_none (by rw [mixS_len]; omega), List.getElem?_eq_none (by simp; omega)]
def triTo (m : List (List Int)) (i k : Nat) : List Int := ((List.range k).filter fun j => csum m (i + 1) j == 1).map fun (j : Nat) => (j : Int) + 1
theorem triTo_succ (m : List (List Int)) (i k : Nat) : triTo m i (k + 1) = triTo m i k ++ (if csum m (i + 1) k = 1 then [(k : Int) + 1] else []) := by
  unfold triTo
  rw [List.range_succ, List.filter_append, List.map_append]
  congr 1
  by_cases h : csum m (i + 1) k = 1 <;> simp [h]
theorem triTo_len (m : List (List Int)) (i k : Nat) : (triTo m i k).length ≤ k := by
  unfold triTo
  rw [List.length_map]
  exact Nat.le_trans (List.length_filter_le _ _) (by simp)
def triL (m : List (List Int)) (n k : Nat) : List (List Int) := (List.range k).map fun (i : Nat) => triTo m i n
theorem triL_succ (m : List (List Int)) (n k : Nat) : triL m n (k + 1) = triL m n k ++ [triTo m k n] := by simp [triL, List.range_succ]
theorem triL_len (m : List (List Int)) (n k : Nat) : (triL m n k).length = k := by simp [triL]
def triR (m : List (List Int)) : List (List Int) := if altB m then triL m m.length m.length else []
theorem altB_iff {m : List (List Int)} (h : altB m = true) : (∀ r ∈ m, r.length = m.length ∧ ∀ x ∈ r, -1 ≤ x ∧ x ≤ 1) ∧ 1 ≤ m.length ∧ m.length ≤ 5 := by
  rw [altB_eq, Bool.and_eq_true] at h
  exact sqB_iff.1 h.1
theorem tot_le' {ll : List (List Int)} {b : Nat} (h : ∀ r ∈ ll, r.length ≤ b) : tot ll ≤ ll.length * b := by
  induction ll with
  | nil => simp [tot]
  | cons r ll ih =>
    rw [tot_cons, List.length_cons, Nat.succ_mul]
    have h1 := h r (by simp)
    have h2 := ih (fun y hy => h y (by simp [hy]))
    omega
theorem triR_small (m : List (List Int)) : (triR m).length ≤ 5 ∧ (∀ r ∈ triR m, r.length ≤ 5) ∧ tot (triR m) ≤ 25 := by
  unfold triR
  split
  · rename_i h
    have := altB_iff h
    have h1 : ∀ r ∈ triL m m.length m.length, r.length ≤ 5 := fun r hr => by
      obtain ⟨i, _, rfl⟩ := List.mem_map.1 hr
      have := triTo_len m i m.length
      omega
    have h2 := tot_le' h1
    rw [triL_len] at h2 ⊢
    exact ⟨by omega, h1, by omega⟩
  · simp [tot]
theorem csum_rng {m : List (List Int)} (h : ∀ r ∈ m, r.length = m.length ∧ ∀ x ∈ r, -1 ≤ x ∧ x ≤ 1) (i j : Nat) (hj : j < m.length) : -(i : Int) ≤ csum m i j ∧ csum m i j ≤ i := by
  induction i with
  | zero => simp [csum]
  | succ i ih =>
    by_cases hi : i < m.length
    · rw [csum_succ (List.getElem?_eq_getElem hi)]
      have := h m[i] (List.getElem_mem hi)
      have := iAt_in this.2 (i := j) (by omega)
      omega
    · have : csum m (i + 1) j = csum m i j := by unfold csum; rw [List.take_of_length_le (by omega), List.take_of_length_le (by omega)]
      omega
set_option maxRecDepth 100000 in
set_option maxHeartbeats 4000000 in
theorem TriangleOf_i (A : Option Addr) (N c : Nat) (m : List (List Int)) (w : World) (hN : N = m.length) (hl : N ≤ 1048576) (hll : ∀ l ∈ m, l.length ≤ 1048576) (hr : RdII w A m) :
    Calls Try.prog 63 #[.slice A N c] w fun e w' => ∃ v, e = .returned (.tuple #[v, .bool (altB m)]) ∧ InII w.heap.size w'.heap.size w' v (triR m) ∧ Below w.heap.size w w' := by
  have HN := Lib.hid hN
  have Hr := Lib.hid hr
  have Hll := Lib.hid hll
  have hB := Below.refl w.heap.size w
  cases h1 : altB m
  · have hv := Lib.hid (show triR m = [] by rw [triR, h1]; rfl)
    have H1 := Lib.hid h1
    clear hN hr hll
    go_enter Try.func63, Try.ntmps63
    go_wp2_with (go_at_call 54; refine (IsAlternating_i A N c m _ HN.out hl Hll.out Hr.out).mono ?_; rintro e wn ⟨rfl, hbn⟩; have hSz := bl_sz (bl_trans hB (by go_grown)) hbn; replace hB := bl_trans (bl_trans hB (by go_grown)) hbn; clear hbn)
    go_ret2
    exact ⟨_, rfl, by rw [hv.out]; exact InS.nil_ _ _ _ _ _, hB⟩
  · have i1 := altB_iff h1
    have H1 := Lib.hid i1.1
    have hv := Lib.hid (show triR m = triL m N N by rw [triR, h1, hN]; rfl)
    have hN5 : N ≤ 5 := by omega
    have hmk := run_make_row' (P := Try.prog) 24 3 (.int .i64 0) 8 Try.underlying24 info_int rfl .i64 .i64 N (by omega) (by omega)
    clear hN hr hll i1
    go_enter Try.func63, Try.ntmps63
    go_upto_region 3 with (go_at_call 54; refine (IsAlternating_i A N c m _ HN.out hl Hll.out Hr.out).mono ?_; rintro e wn ⟨rfl, hbn⟩; have hSz := bl_sz (bl_trans hB (by go_grown)) hbn; replace hB := bl_trans (bl_trans hB (by go_grown)) hbn; clear hbn)
    go_cut [4, 5] from 14 to 17 (fun o s wr => ∃ gs, s = .slice (some ⟨gs, 0, none⟩) N N ∧ Blk wr gs 3 ((mixS m N 0 0).map cI) ∧ InS2 24 InI w.heap.size (gs + 1) wr.heap.size wr o [] ∧ w.heap.size ≤ gs ∧ Below w.heap.size w wr)
    case first =>
      have hsz := hB.size
      have Bz := fun o => Blk.new2 wn o 3 (List.replicate N (.int .i64 0))
      have Bz1 := Blk.new wn 3 (List.replicate N (.int .i64 0))
      have HBz := Lib.hid Bz
      have HBz1 := Lib.hid Bz1
      clear Bz Bz1
      go_region
      · go_wp2_with fail
        go_meet
        refine ⟨wn.heap.size + 1, rfl, ?_, ?_, by omega, bl_trans hB (by go_grown)⟩
        · rw [mixS_zero, List.map_replicate, made_list]; exact HBz.out _
        · exact InS2.bel famR_I (InS2.new_ 24 InI (w := wn) hsz (by simp; omega)) (by go_grown)
      · go_wp2_with fail
        go_meet
        refine ⟨wn.heap.size, rfl, ?_, ?_, by omega, bl_trans hB (by go_grown)⟩
        · rw [mixS_zero, List.map_replicate, made_list]; exact HBz1.out.bel (by go_grown)
        · have := InS2.new_ 24 InI (lo := w.heap.size) (lo2 := wn.heap.size + 1) (hi := wn.heap.size + 1 + 1) (w := wn.alloc (.cells (madeCells #[Value.int IntKind.i64 0] N) 3)) (by simp; omega) (by simp)
          rw [World.size_alloc] at this
          exact InS2.wide (InS2.bel famR_I this (by go_grown)) (by simp)
    case rest =>
      obtain ⟨gs, rfl, hgs, hI, hgs0, hBc⟩ := hcut
      clear hB
      go_wp2_with fail
      go_loopw [4, 20] (fun o q wr => ∃ i : Nat, i ≤ N ∧ q = .int .i64 i ∧ Blk wr gs 3 ((mixS m N i 0).map cI) ∧ InS2 24 InI w.heap.size (gs + 1) wr.heap.size wr o (triL m N i) ∧ Below w.heap.size w wr) (fun _ q _ => N - (intOf q).toNat)
      case atStart => exact ⟨0, by omega, rfl, hgs, hI, hBc⟩
      case round =>
        obtain ⟨i, hi, rfl, hblk, hI', hB'⟩ := hrel
        obtain ⟨wo, rfl⟩ : ∃ wo : World, wo = wr := ⟨_, rfl⟩
        clear hgs hI hBc
        by_cases hlt : i < N
        · obtain ⟨b, off, l, A1, c1, rfl, hb, hx, _, hrl, hc0⟩ := Hr.out.at_ (k := i) (by have := HN.out; omega)
          have hc := (hB'.cell (p := ⟨b, off + i, none⟩) hb).trans hc0
          have hl1 := H1.out l (List.mem_of_getElem? hx)
          rw [← HN.out] at hl1
          rw [hl1.1] at hc hc0
          have HL := Lib.hid hl1.1
          have Hl1 := Lib.hid hl1.2
          have Hrl := Lib.hid hrl
          have Hcs := Lib.hid (fun j => csum_succ (j := j) hx)
          have htl := Lib.hid (triL_succ m N i)
          have e0 := Lib.hid (OwI.new_ (B := wo.heap.size) (w := wo) (Nat.le_refl _))
          have hsz := hB'.size
          have hgw := hblk.lt
          have Hb := Lib.hid (hblk.alloc (.cells #[] 3))
          have HI := Lib.hid (InS2.bel famR_I hI' (w' := wo.alloc (.cells #[] 3)) (by go_grown))
          have HB := Lib.hid (bl_alloc hB' (.cells #[] 3))
          clear hx hl1 hrl hblk hI' hB' hc0
          go_wp2_with fail
          go_loopw [8, 27] (fun v q wr => ∃ k : Nat, k ≤ N ∧ q = .int .i64 k ∧ OwI wo.heap.size wr v (triTo m i k) ∧ Blk wr gs 3 ((mixS m N i k).map cI) ∧ InS2 24 InI w.heap.size (gs + 1) wo.heap.size wr u4 (triL m N i) ∧ Below w.heap.size w wr ∧ wo.heap.size ≤ wr.heap.size) (fun _ q _ => N - (intOf q).toNat)
          case atStart => exact ⟨0, by omega, rfl, by simpa [triTo] using e0.out, Hb.out, HI.out, HB.out, by simp⟩
          case round =>
            obtain ⟨k, hk, rfl, own, hblk, hI', hB', hsw⟩ := hrel
            clear Hb HI HB e0
            by_cases hlt1 : k < N
            · obtain ⟨b3, off3, x, rfl, hb3, hx, _, gx, cx0⟩ := Hrl.out.at_ (k := k) (by have := HL.out; omega)
              have cx := (hB'.cell (p := ⟨b3, off3 + k, none⟩) hb3).trans cx0
              have hx1 := Hl1.out x (List.mem_of_getElem? hx)
              have hcs1 := Hcs.out k
              rw [iAt_eq hx] at hcs1
              have hrg := csum_rng H1.out i k (by have := HN.out; omega)
              have cg := hblk.getI (mixS_at m (i := i) (k := k) hlt1)
              rw [if_neg (Nat.lt_irrefl k)] at cg
              have fg := hblk.frozen k
              obtain ⟨y, hy⟩ : ∃ y, y = csum m i k := ⟨_, rfl⟩
              rw [← hy] at cg hrg hcs1
              have hset := hblk.setI k (y + x)
              rw [← hcs1, mixS_set m hlt1, hcs1] at hset
              have hts := Lib.hid (triTo_succ m i k)
              have Hcs1 := Lib.hid hcs1
              have Ho := Lib.hid (own.set' (p := ⟨gs, k, none⟩) (by show gs < wo.heap.size; exact hgw) (.int .i64 (y + x)))
              have HI2 := Lib.hid (InS2.set_ famR_I hI' hblk (by decide) (Nat.lt_succ_self _) (.int .i64 (y + x)) (i := k))
              have HB2 := Lib.hid (hB'.setCell (p := ⟨gs, k, none⟩) hgs0 (.int .i64 (y + x)))
              have Hs := Lib.hid hset
              have hlk : (triTo m i k).length ≤ 1048576 := by have := triTo_len m i k; omega
              clear hx hy hcs1 hset own hI' hB' hblk cx0
              by_cases h1 : y + x = 1
              · have hb1 : (y + x == 1) = true := by simp [h1]
                have H11 := Lib.hid h1
                clear h1
                go_wp2_with (at_builtin; go_must (refine wpList_as1H rfl (.tmp 44) (.tmp 47) rfl wr.heap.size (by simp) wo.heap.size _ (triTo m i k) _ rfl rfl Ho.out (by simp; omega) hlk ⟨by omega, by omega⟩ ?_; intro A3 L3 c3 w3 hL3 o3 b3 g3 s3; have hbw := b3 _ (Below.refl _ _); have HB3 := Lib.hid ((HB2.out).trans (hbw.mono hsz)); have HO3 := Lib.hid o3; have HI3 := Lib.hid (HI2.out.belhi famR_I hbw); have Hs3 := Lib.hid (Hs.out.below hbw hgw); have hs3 : wo.heap.size ≤ w3.heap.size := (by have := hbw.size; simp at this; omega); clear o3 b3 g3 hbw))
                go_roundw
                case rel => exact ⟨k + 1, by omega, by go_num, by rw [hts.out, if_pos (by rw [Hcs1.out]; exact H11.out)]; exact HO3.out, Hs3.out, HI3.out, HB3.out, hs3⟩
                case measure => simp [intOf]; omega
              · have hb1 : (y + x == 1) = false := by simp [h1]
                have H11 := Lib.hid h1
                clear h1
                go_wp2_with fail
                go_roundw
                case rel => exact ⟨k + 1, by omega, by go_num, by rw [hts.out, if_neg (by rw [Hcs1.out]; exact H11.out), List.append_nil]; exact Ho.out, Hs.out, HI2.out, HB2.out, by simpa using hsw⟩
                case measure => simp [intOf]; omega
            · obtain rfl : k = N := by omega
              obtain ⟨⟨A3, c3, rfl⟩, _⟩ := id own
              rw [mixS_next] at hblk
              have Hu := Lib.hid own.inn
              have HI2 := Lib.hid hI'
              have Hs := Lib.hid hblk
              have HB2 := Lib.hid hB'
              have hlk : (triL m k i).length ≤ 1048576 := by rw [triL_len]; omega
              clear own hI' hblk hB'
              go_wp2_with (at_builtin; refine wpList_apIn2 rfl (.tmp 50) (.tmp 52) rfl w.heap.size (gs + 1) wo.heap.size _ (triL m k i) _ _ wo.heap.size wr.heap.size rfl rfl HI2.out Hu.out (Nat.le_refl _) hsz hgw hsw (Nat.le_refl _) hlk ?_; intro A4 L4 c4 w4 hL4 o4 b4 g4 s4; have HB4 := Lib.hid (b4 _ HB2.out); have HI4 := Lib.hid o4; have Hs4 := Lib.hid (Hs.out.keepT g4 HI2.out.typ (by decide)); clear o4 b4 g4)
              go_roundw
              case rel => exact ⟨i + 1, by omega, by go_num, Hs4.out, by rw [htl.out]; exact HI4.out, HB4.out⟩
              case measure => simp [intOf]; omega
        · obtain rfl : i = N := by omega
          have HI := Lib.hid hI'
          clear hI' hmk
          go_wp2_with fail
          go_ret2
          exact ⟨_, rfl, by rw [hv.out]; exact HI.out.inS (by omega), hB'⟩
end Go.Proofs.Ytdcjhfmkkcakhaa

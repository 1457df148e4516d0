/-
  l25Rows of the reference: all rows that may occur; not built yet.
-/
import Derived.Test.YtdcjhfmkkcakhaaL25
namespace Go.Proofs.Ytdcjhfmkkcakhaa
open Go.ChangeShapes Go.WideShapes Go.ChangeAt Go.RowKit Go.Deep
set_option linter.unusedVariables false
set_option maxRecDepth 100000 in
set_option maxHeartbeats 4000000 in
theorem l25Rows_any (n : Nat) (h1 : 1 ≤ n) (h4 : n ≤ 4) (w : World) :
    Calls Try.prog 207 #[.int .i64 (n : Int)] w fun e w' => ∃ v, e = .returned v ∧ InII w.heap.size w'.heap.size w' v (rowsTo n (th n)) ∧ Below w.heap.size w w' := by
  have hmk := run_make_row' (P := Try.prog) 24 3 (.int .i64 0) 8 Try.underlying24 info_int rfl .i64 .i64 n (by omega) (by omega)
  have ow := Lib.hid (InS.new_ 24 InI (lo := w.heap.size) (hi := w.heap.size + 1) (w := w) (Nat.le_refl _) (Nat.lt_succ_self _))
  have hB0 := bl_alloc (Below.refl w.heap.size w) (.cells #[] 24)
  have hth := th_le h4
  go_enter Try.func207, Try.ntmps207
  go_wp2
  go_loop [4, 5] (fun p q => ∃ i : Nat, i ≤ n ∧ q = .int .i64 i ∧ p = .int .i64 (th i : Nat)) (fun _ q => n - (intOf q).toNat)
  case atStart => exact ⟨0, by omega, rfl, rfl⟩
  case round =>
    obtain ⟨i, hi, rfl, rfl⟩ := hrel
    by_cases hlt : i < n
    · have hst := th_step (i := i) (by omega)
      go_wp2_with fail
      go_round
      case rel => exact ⟨i + 1, by omega, by go_num, congrArg _ hst⟩
      case measure => simp [intOf]; omega
    · obtain rfl : i = n := by omega
      go_wp2_with fail
      go_loopw [3, 6] (fun v q wr => ∃ s : Nat, s ≤ th i ∧ q = .int .i64 s ∧ InII w.heap.size wr.heap.size wr v (rowsTo i s) ∧ Below w.heap.size w wr) (fun _ q _ => th i - (intOf q).toNat)
      case atStart => exact ⟨0, by omega, rfl, by rw [World.size_alloc]; exact ow.out, hB0⟩
      case round =>
        obtain ⟨s, hs, rfl, hI, hB⟩ := hrel
        obtain ⟨⟨A3, c3, rfl⟩, _⟩ := id hI
        clear ow hB0
        have hsz := hB.size
        have hrl := rowsTo_len i s
        generalize hL3 : (rowsTo i s).length = L3 at hI ⊢
        have HI := Lib.hid hI
        have HL3 := Lib.hid hL3
        clear hI
        by_cases hlt2 : s < th i
        · clear hL3
          go_wp2_with fail
          rw [made_list]
          have hb0 := Lib.hid (Blk.new wr 3 (List.replicate i (.int .i64 0)))
          have HI0 := Lib.hid (InII.bel HI.out (Below.alloc (Below.refl _ _) (Nat.le_refl _) (.cells (List.replicate i (.int .i64 0)).toArray 3)))
          have hB0 := Lib.hid (hB.alloc hsz (.cells (List.replicate i (.int .i64 0)).toArray 3))
          have hgs : (wr.alloc (.cells (List.replicate i (.int .i64 0)).toArray 3)).heap.size = wr.heap.size + 1 := World.size_alloc ..
          obtain ⟨wo, rfl⟩ : ∃ wo : World, wo = wr := ⟨_, rfl⟩
          go_loopw [8, 9] (fun a b wr2 => ∃ (k x : Nat) (tail : List Int), k ≤ i ∧ b = .int .i64 ((k : Int) - 1) ∧ a = .int .i64 x ∧ x ≤ 81 ∧ tail.length + k = i ∧ Hid (rowD i s = rowD k x ++ tail) ∧ Blk wr2 wo.heap.size 3 ((List.replicate k 0 ++ tail).map cI) ∧ Hid (InII w.heap.size wo.heap.size wr2 (.slice A3 L3 c3) (rowsTo i s)) ∧ Hid (Below w.heap.size w wr2) ∧ Hid (wr2.heap.size = wo.heap.size + 1)) (fun _ b _ => (intOf b + 1).toNat)
          case atStart => exact ⟨i, s, [], by omega, rfl, rfl, by omega, by simp, Lib.hid (by simp), by simpa [cI] using hb0.out, HI0, hB0, Lib.hid hgs⟩
          case round =>
            obtain ⟨k, x, tail, hk, rfl, rfl, hx81, htl, hrow, hblk, HI2, HB2, hsz2⟩ := hrel
            clear hb0 HI0 hB0 HI hgs hB
            have hwg : w.heap.size ≤ wo.heap.size := by omega
            cases k with
            | zero =>
              have hq : decide (((0 : Nat) : Int) - 1 ≥ 0) = false := by decide
              have htl' : tail.length = i := by omega
              have hrow2 : rowD i s = tail := by have := hrow.out; simpa [rowD] using this
              have hmem : ∀ y ∈ tail, I64 y := fun y hy => by have := rowD_mem i s y (by rw [hrow2]; exact hy); exact ⟨by omega, by omega⟩
              have O := Blk.ownI2 (B := wo.heap.size) (cap := i) (l := tail) (rest := []) (by simpa using hblk) (Nat.le_refl _) (by omega) (by simp only [maxLen]; omega) (by simp; omega) hmem
              rw [htl'] at O
              have hstep : rowsTo i (s + 1) = rowsTo i s ++ if lineS 0 tail then [tail] else [] := by rw [rowsTo, hrow2]
              have HO := Lib.hid O
              have Hrd := Lib.hid O.rd
              have Hstep := Lib.hid hstep
              have HT := Lib.hid htl'
              have hi5 : i ≤ 1048576 := by omega
              have hab := Lib.hid (show wo.heap.size ≤ wr.heap.size by rw [hsz2.out]; exact Nat.le_succ _)
              have hl3 : (rowsTo i s).length ≤ 1048576 := by omega
              clear O hblk hstep hmem hrow hrow2 htl htl' hk
              cases hln : lineS 0 tail
              · have Hln := Lib.hid hln
                go_wp2_with (go_at_call 213; refine (l25Line_any (some ⟨wo.heap.size, 0, none⟩) i i tail _ HT.out.symm hi5 Hrd.out).mono ?_; rintro e w1 ⟨rfl, rfl⟩; rw [Hln.out])
                go_roundw
                case rel => exact ⟨s + 1, by omega, by go_num, by rw [Hstep.out, Hln.out, hsz2.out]; simpa using InII.wide HI2.out (Nat.le_refl _) (Nat.le_succ _), HB2.out⟩
                case measure => simp [intOf]; omega
              · have Hln := Lib.hid hln
                go_wp2_with (first | (go_at_call 213; refine (l25Line_any (some ⟨wo.heap.size, 0, none⟩) i i tail _ HT.out.symm hi5 Hrd.out).mono ?_; rintro e w1 ⟨rfl, rfl⟩; rw [Hln.out]) | (at_builtin; go_must (refine wpList_apInII rfl (.tmp 42) (.tmp 44) rfl w.heap.size wo.heap.size _ (rowsTo i s) _ tail wo.heap.size wr.heap.size rfl rfl HI2.out HO.out.inn (Nat.le_refl _) hwg hab.out (Nat.le_refl _) hl3 ?_; intro A2 L2 c2 w2 hL2 i2 b2 g2 s2; have HB3 := Lib.hid (b2 _ HB2.out); have I2 := Lib.hid i2; clear i2 b2 g2)))
                go_roundw
                case rel => exact ⟨s + 1, by omega, by go_num, by rw [Hstep.out, Hln.out]; exact I2.out, HB3.out⟩
                case measure => simp [intOf]; omega
            | succ j =>
              have hj : j < i := by omega
              have hq : decide (((j + 1 : Nat) : Int) - 1 ≥ 0) = true := decide_eq_true (by omega)
              have e0 : ((j + 1 : Nat) : Int) - 1 = (j : Int) := by omega
              rw [e0] at hq ⊢
              obtain ⟨m, hm⟩ : ∃ m : Nat, m = x % 3 := ⟨_, rfl⟩
              obtain ⟨d, hd⟩ : ∃ d : Nat, d = x / 3 := ⟨_, rfl⟩
              have e1 : (x : Int).tmod 3 = (m : Int) := by rw [Int.tmod_eq_emod_of_nonneg (by omega)]; omega
              have e2 : (x : Int).tdiv 3 = (d : Int) := by rw [Int.tdiv_eq_ediv_of_nonneg (by omega)]; omega
              have hm3 : m < 3 := by omega
              have hd81 : d ≤ 81 := by omega
              have bc : ∃ u, wr.cell? ⟨wo.heap.size, j, none⟩ = some u := ⟨_, (hblk.cell j).trans (List.getElem?_eq_getElem (by simp; omega))⟩
              obtain ⟨u, hu⟩ := bc
              have bf := hblk.frozen j
              have hset := hblk.set_ j (.int .i64 ((m : Int) - 1))
              rw [rep_set] at hset
              have Hset := Lib.hid hset
              have Hrow := Lib.hid (show rowD i s = rowD j d ++ (((m : Int) - 1) :: tail) by rw [hrow.out, rowD, hm, hd, List.append_assoc]; rfl)
              clear hblk hrow hset e0 hd hm
              go_wp2_with fail
              go_roundw
              case rel => exact ⟨j, d, ((m : Int) - 1) :: tail, by omega, by go_num, by go_num, hd81, by simp; omega, Hrow, Hset.out, Lib.hid (InII.loc HI2.out (fun b h1 h2 h3 => Below.heap_setCell wr ⟨wo.heap.size, j, none⟩ _ b (by show b ≠ wo.heap.size; omega))), Lib.hid (bl_set HB2.out (p := ⟨wo.heap.size, j, none⟩) hwg _), Lib.hid (by simpa using hsz2.out)⟩
              case measure => simp [intOf]; try omega
        · obtain rfl : s = th i := by omega
          go_wp2_with fail
          go_ret
          exact ⟨_, rfl, HI.out, hB⟩
end Go.Proofs.Ytdcjhfmkkcakhaa

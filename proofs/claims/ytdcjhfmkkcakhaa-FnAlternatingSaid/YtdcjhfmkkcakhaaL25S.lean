/-
  l25List of the reference: the leaf (a head of n rows). Under way.
-/
import Derived.Test.YtdcjhfmkkcakhaaL25P
import Derived.Test.YtdcjhfmkkcakhaaL25A
namespace Go.Proofs.Ytdcjhfmkkcakhaa
open Go.ChangeShapes Go.WideShapes Go.ChangeAt Go.RowKit Go.Deep
set_option linter.unusedVariables false
set_option maxRecDepth 100000 in
set_option maxHeartbeats 4000000 in
theorem l25Leaf (n : Nat) (h1 : 1 ≤ n) (h4 : n ≤ 4) (rows head : List (List Int)) (sums : List Int) (RA HA SA : Option Addr) (rl rc hc sc : Nat) (w : World) (hhl : n = head.length) (hhr : ∀ r ∈ head, r.length ≤ 1048576) (hsl : n = sums.length) (hh : RdII w HA head) (hs : RdI w SA sums) :
    Calls Try.prog 206 #[.int .i64 (n : Int), .slice RA rl rc, .slice HA n hc, .slice SA n sc] w fun e w' => ∃ v, e = .returned v ∧ InIII w.heap.size w'.heap.size w' v (sp25 n rows 0 head sums) ∧ Below w.heap.size w w' := by
  have hB0 := bl_alloc (Below.refl w.heap.size w) (.cells #[] 76)
  have ow := Lib.hid (InS.new_ 76 InII (lo := w.heap.size) (hi := w.heap.size + 1) (w := w) (Nat.le_refl _) (Nat.lt_succ_self _))
  have HHL := Lib.hid hhl
  have HSL := Lib.hid hsl
  have Hh := Lib.hid (hh.below (Below.alloc (Below.refl _ _) (Nat.le_refl _) (.cells #[] 76)))
  have Hs := Lib.hid (hs.below (Below.alloc (Below.refl _ _) (Nat.le_refl _) (.cells #[] 76)))
  have Hhr := Lib.hid hhr
  have H0 := Lib.hid hh
  clear hhl hsl hh hs hhr
  go_enter Try.func206, Try.ntmps206
  go_wp2
  go_loop [10] (fun q => ∃ k : Nat, k ≤ n ∧ q = .int .i64 k ∧ Hid (sums.all (· == 1) = (sums.drop k).all (· == 1))) (fun q => n - (intOf q).toNat)
  case atStart => exact ⟨0, by omega, rfl, Lib.hid rfl⟩
  case round =>
    obtain ⟨k, hk, rfl, hall⟩ := hrel
    by_cases hlt : k < n
    · obtain ⟨b, off, x, rfl, hbl, hx, hd, _, hcell⟩ := Hs.out.at_ (k := k) (by rw [← HSL.out]; exact hlt)
      have hall2 := Lib.hid (show sums.all (· == 1) = ((x == 1) && (sums.drop (k + 1)).all (· == 1)) by rw [hall.out, hd]; rfl)
      clear hall hd hx
      by_cases hx1 : x = 1
      · subst hx1
        go_wp2_with fail
        go_round
        case rel => exact ⟨k + 1, by omega, by go_num, Lib.hid (by rw [hall2.out]; rfl)⟩
        case measure => simp [intOf]; omega
      · have Hx := Lib.hid (show (x == 1) = false by simpa using hx1)
        go_wp2_with fail
        go_ret
        exact ⟨_, rfl, by rw [sp25, hall2.out, Hx.out, World.size_alloc]; exact ow.out, hB0⟩
    · obtain rfl : k = n := by omega
      have hall2 := Lib.hid (show sums.all (· == 1) = true by rw [hall.out, List.drop_eq_nil_of_le (by have := HSL.out; omega)]; rfl)
      clear hall
      have o1 := Lib.hid (InS.new_ 24 InI (lo := w.heap.size + 1) (hi := w.heap.size + 1 + 1) (w := w.alloc (.cells #[] 76)) (by rw [World.size_alloc]; exact Nat.le_refl _) (by rw [World.size_alloc]; exact Nat.lt_succ_self _))
      have hz : (w.alloc (.cells #[] 76)).heap.size = w.heap.size + 1 := World.size_alloc ..
      have o0 := Lib.hid (InIII.bel ow.out (Below.alloc (Below.refl _ _) (Nat.le_refl _) (.cells #[] 24)))
      have hB1 := Lib.hid (bl_alloc hB0 (.cells #[] 24))
      have Hh1 := Lib.hid (Hh.out.below (Below.alloc (Below.refl _ _) (Nat.le_refl _) (.cells #[] 24)))
      have hw1 : w.heap.size + 1 ≤ ((w.alloc (.cells #[] 76)).alloc (.cells #[] 24)).heap.size := by rw [World.size_alloc, World.size_alloc]; omega
      rw [hz] at o1
      clear hB0 ow Hh hz
      go_wp2_with fail
      go_loopw [11, 12] (fun v q wr => ∃ j : Nat, j ≤ k ∧ q = .int .i64 j ∧ InII (w.heap.size + 1) wr.heap.size wr v (head.take j) ∧ Hid (InIII w.heap.size (w.heap.size + 1) wr (.slice (some ⟨w.heap.size, 0, none⟩) 0 0) []) ∧ Hid (RdII wr HA head) ∧ Hid (Below w.heap.size w wr) ∧ w.heap.size + 1 ≤ wr.heap.size) (fun _ q _ => k - (intOf q).toNat)
      case atStart => exact ⟨0, by omega, rfl, by have := o1.out; rw [World.size_alloc, World.size_alloc]; exact this, o0, Hh1, hB1, hw1⟩
      case round =>
        obtain ⟨j, hj, rfl, hI, O, HH, HB, hsz⟩ := hrel
        obtain ⟨⟨A3, c3, rfl⟩, _⟩ := id hI
        clear o1 o0 hB1 Hh1 hw1
        generalize hL3 : (head.take j).length = L3 at hI ⊢
        have HI := Lib.hid hI
        clear hI
        by_cases hlt2 : j < k
        · obtain ⟨b, off, x, A1, c1, rfl, hbl, hx, hd, hrx, hc⟩ := HH.out.at_ (k := j) (by have := HHL.out; omega)
          have hxl : x.length ≤ 1048576 := Hhr.out x (List.mem_of_getElem? hx)
          have Htk := Lib.hid (take_snoc_at hx)
          have Hrx := Lib.hid (hrx.below (Below.alloc (Below.refl _ _) (Nat.le_refl _) (.cells #[] 3)))
          have ow2 := Lib.hid (OwI.new_ (B := wr.heap.size) (w := wr) (Nat.le_refl _))
          have hlt3 : (head.take j).length ≤ 1048576 := by rw [List.length_take]; omega
          have hww : wr.heap.size ≤ (wr.alloc (.cells #[] 3)).heap.size := by rw [World.size_alloc]; omega
          have hal := Lib.hid (Below.alloc (Below.refl wr.heap.size wr) (Nat.le_refl _) (.cells #[] 3))
          clear hx hd hrx hL3
          go_wp2_with (at_builtin; (first | (refine wpList_apsI rfl (.tmp 40) (.tmp 44) rfl wr.heap.size _ [] x A1 c1 rfl _ rfl ow2.out Hrx.out rfl hww (by simp) hxl ?_; intro A4 L4 c4 w4 hL4 o4 b4 g4; go_must (have hb4 := b4 _ hal.out; have O4 := Lib.hid (show InI wr.heap.size w4.heap.size w4 (.slice A4 L4 c4) x from o4.inn); have HI4 := Lib.hid (InII.bel HI.out hb4); have OO4 := Lib.hid (InIII.bel O.out hb4); have HH4 := Lib.hid (HH.out.below hb4); have HB4 := Lib.hid (bl_trans HB.out hb4); have hs4 := hb4.size; clear o4 b4 g4 hb4)) | (refine wpList_apInII rfl (.tmp 39) (.tmp 46) rfl (w.heap.size + 1) wr.heap.size _ (head.take j) _ x wr.heap.size w4.heap.size rfl rfl HI4.out O4.out (Nat.le_refl _) hsz hs4 (Nat.le_refl _) hlt3 ?_; intro A5 L5 c5 w5 hL5 i5 b5 g5 s5; go_must (have hb5 := b5 _ (Below.refl _ w4); have I5 := Lib.hid i5; clear i5))))
          have HB5 : Below w.heap.size w w5 := HB4.out.trans (Below.mono hb5 (Nat.le_succ _))
          go_roundw
          case rel => exact ⟨j + 1, by omega, by go_num, by rw [Htk.out]; exact I5.out, Lib.hid (InS.loc famR_II OO4.out (fun b h1 h2 h3 => hb5.block b h2)), Lib.hid (RdII.below H0.out HB5), Lib.hid HB5, by omega⟩
          case measure => simp [intOf]; omega
        · obtain rfl : j = k := by omega
          have hend : head.take j = head := List.take_of_length_le (by have := HHL.out; omega)
          rw [hend] at HI
          clear hend hL3
          go_wp2_with (at_builtin; go_must (refine wpList_apIn3 rfl (.tmp 48) (.tmp 50) rfl w.heap.size (w.heap.size + 1) _ [] _ head (w.heap.size + 1) wr.heap.size rfl rfl O.out HI.out (Nat.le_refl _) (Nat.le_succ _) hsz (Nat.le_refl _) (by simp) ?_; intro A2 L2 c2 w2 hL2 i2 b2 g2 s2; have HB3 := Lib.hid (b2 _ HB.out); have I2 := Lib.hid i2; clear i2 b2 g2))
          go_ret
          exact ⟨_, rfl, by rw [sp25, hall2.out]; exact I2.out, HB3.out⟩
end Go.Proofs.Ytdcjhfmkkcakhaa

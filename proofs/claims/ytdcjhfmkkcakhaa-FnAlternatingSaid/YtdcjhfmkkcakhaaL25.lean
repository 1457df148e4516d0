/-
  The list of all matrices with alternating signs, both ways: its parts (copyRows, l25Rows ..): what each returns; nothing that was there is written.
-/
import Derived.Test.YtdcjhfmkkcakhaaIntSSS
import Derived.Test.YtdcjhfmkkcakhaaAlt
import Derived.Test.YtdcjhfmkkcakhaaCopy
import Derived.Deep.DeepMust
namespace Go.Proofs.Ytdcjhfmkkcakhaa
open Go.ChangeShapes Go.WideShapes Go.ChangeAt Go.RowKit Go.Deep
set_option linter.unusedVariables false

theorem Blk.ownI2 {B g cap : Nat} {w : World} {l : List Int} {rest : List Value} (h : Blk w g 3 ((l.map cI) ++ rest)) (hB : B ≤ g) (hn : l.length ≤ cap) (hm : cap ≤ maxLen) (hs : ((l.map cI) ++ rest).length = cap * 1) (hg : ∀ x ∈ l, I64 x) :
    OwI B w (.slice (some ⟨g, 0, none⟩) l.length cap) l := by
  have e : (l.map cI).length = l.length * 1 := by simp
  exact ⟨⟨_, _, rfl⟩, ⟨e, .inr ⟨g, cap, _, rfl, hB, h, hn, hm, by simpa using hs, by rw [← e]; simp⟩⟩, hg⟩
set_option maxHeartbeats 1000000 in
theorem copyRows_any (A : Option Addr) (n c : Nat) (ll : List (List Int)) (w : World) (hn : n = ll.length) (hl : n ≤ 1048576) (hll : ∀ l ∈ ll, l.length ≤ 1048576) (hr : RdII w A ll) :
    Calls Try.prog 133 #[.slice A n c] w fun e w' => ∃ v, e = .returned v ∧ InII w.heap.size w'.heap.size w' v ll ∧ Below w.heap.size w w' := by
  have HN := Lib.hid hn
  have Hr := Lib.hid hr
  have Hll := Lib.hid hll
  have ow := Lib.hid (InS.new_ 24 InI (lo := w.heap.size) (hi := w.heap.size + 1) (w := w) (Nat.le_refl _) (Nat.lt_succ_self _))
  have hB0 := bl_alloc (Below.refl w.heap.size w) (.cells #[] 24)
  clear hn hr hll
  go_enter Try.func133, Try.ntmps133
  go_wp2
  go_loopw [3, 9] (fun v q wr => ∃ k : Nat, k ≤ n ∧ q = .int .i64 k ∧ InII w.heap.size wr.heap.size wr v (ll.take k) ∧ Below w.heap.size w wr) (fun _ q _ => n - (intOf q).toNat)
  case atStart => exact ⟨0, by omega, rfl, by rw [World.size_alloc]; exact ow.out, hB0⟩
  case round =>
    obtain ⟨k, hk, rfl, hI, hB⟩ := hrel
    obtain ⟨⟨A3, c3, rfl⟩, _⟩ := id hI
    clear ow hB0
    have hsz := hB.size
    generalize (ll.take k).length = L3 at hI ⊢
    have HI := Lib.hid hI
    clear hI
    by_cases hlt : k < n
    · obtain ⟨b, off, x, A1, c1, rfl, hbl, hx, hd, hrx, hc⟩ := (Hr.out.below hB).at_ (k := k) (by have := HN.out; omega)
      have hxl : x.length ≤ 1048576 := Hll.out x (List.mem_of_getElem? hx)
      have Htk := Lib.hid (take_snoc_at hx)
      have Hrx := Lib.hid hrx
      have hlt3 : (ll.take k).length ≤ 1048576 := by rw [List.length_take]; omega
      clear hx hd hrx
      go_wp2_with (first | (go_at_call 194; go_must (refine (copyOf_any A1 x.length c1 x _ rfl hxl Hrx.out).mono ?_; rintro e w1 ⟨v1, rfl, o1, hb1⟩; obtain ⟨⟨A4, c4, rfl⟩, _⟩ := id o1; have HI1 := Lib.hid (HI.out.bel hb1); have O1 := Lib.hid o1.inn; have hs1 := hb1.size; have hB1 := bl_trans hB hb1; clear o1 hb1)) | (at_builtin; go_must (refine wpList_apInII rfl (.tmp 13) (.tmp 16) rfl w.heap.size wr.heap.size _ (ll.take k) _ x wr.heap.size w1.heap.size rfl rfl HI1.out O1.out (Nat.le_refl _) hsz hs1 (Nat.le_refl _) hlt3 ?_; intro A2 L2 c2 w2 hL2 i2 b2 g2 s2; have HB2 := Lib.hid (b2 _ hB1); have I2 := Lib.hid i2; clear i2 b2 g2)))
      go_roundw
      case rel => exact ⟨k + 1, by omega, by go_num, by rw [Htk.out]; exact I2.out, HB2.out⟩
      case measure => simp [intOf]; omega
    · obtain rfl : k = n := by omega
      have hend : ll.take k = ll := List.take_of_length_le (by have := HN.out; omega)
      rw [hend] at HI
      clear hend
      go_wp2
      go_ret
      exact ⟨_, rfl, HI.out, hB⟩
def th (i : Nat) : Nat := 3 ^ i
theorem th_le {i : Nat} (h : i ≤ 4) : th i ≤ 81 := Nat.pow_le_pow_right (n := 3) (by decide) h
theorem th_step {i : Nat} (h : i < 4) : wrap64 (3 * ((th i : Nat) : Int)) = ((th (i + 1) : Nat) : Int) := by
  have h1 := th_le (i := i) (by omega)
  have h2 : th (i + 1) = 3 * th i := by rw [th, th, Nat.pow_succ]; omega
  rw [h2]
  have := IntWalk.i64_in (3 * ((th i : Nat) : Int)) (by omega)
  rw [IntWalk.i64_left] at this
  rw [this]
  push_cast
  rfl
def rowD : Nat → Nat → List Int
  | 0, _ => []
  | k + 1, s => rowD k (s / 3) ++ [((s % 3 : Nat) : Int) - 1]
theorem rowD_len : ∀ k s, (rowD k s).length = k
  | 0, _ => rfl
  | k + 1, s => by simp [rowD, rowD_len k]
theorem rowD_mem : ∀ k s, ∀ x ∈ rowD k s, -1 ≤ x ∧ x ≤ 1
  | 0, _, x, h => by simp [rowD] at h
  | k + 1, s, x, h => by
    rw [rowD, List.mem_append] at h
    rcases h with h | h
    · exact rowD_mem k _ x h
    · simp at h; omega
def rowsTo (n : Nat) : Nat → List (List Int)
  | 0 => []
  | t + 1 => rowsTo n t ++ if lineS 0 (rowD n t) then [rowD n t] else []
theorem rowsTo_len (n : Nat) : ∀ t, (rowsTo n t).length ≤ t
  | 0 => by simp [rowsTo]
  | t + 1 => by have := rowsTo_len n t; rw [rowsTo, List.length_append]; split <;> simp <;> omega
theorem rep_set (j : Nat) (tail : List Int) (y : Int) : ((List.replicate (j + 1) (0 : Int) ++ tail).map cI).set j (.int .i64 y) = (List.replicate j (0 : Int) ++ y :: tail).map cI := by
  rw [List.replicate_succ', List.append_assoc, List.map_append, List.set_append_right _ _ (by simp)]
  simp [cI]
end Go.Proofs.Ytdcjhfmkkcakhaa

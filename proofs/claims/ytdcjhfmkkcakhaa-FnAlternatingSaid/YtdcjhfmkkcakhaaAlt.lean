/-
  Contracts of IsAlternating (both) and its parts (isSquare, isByTurns, l25Line, l25Column): what each returns, as a function of the rows; nothing that was there is written; at most 1048576 numbers.
-/
import Derived.Test.YtdcjhfmkkcakhaaIntSS
import Derived.Deep.DeepMust
namespace Go.Proofs.Ytdcjhfmkkcakhaa
open Go.ChangeShapes Go.WideShapes Go.ChangeAt Go.RowKit Go.Deep
set_option linter.unusedVariables false

def rAt' (t : List (List Int)) (k : Nat) : List Int := (t[k]?).getD []
theorem rAt'_eq {t : List (List Int)} {k : Nat} {l : List Int} (h : t[k]? = some l) : rAt' t k = l := by simp [rAt', h]
/-- the sums of a line's beginnings are 0 or 1, the whole sum is 1 -/
def lineS : Int → List Int → Bool
  | s, [] => s == 1
  | s, x :: l => inB x (-1) 1 && (inB (s + x) 0 1 && lineS (s + x) l)
def colL (m : List (List Int)) (k : Nat) : List Int := m.map fun r => iAt r k
def rowOk (m : List (List Int)) (i : Nat) : Bool := decide ((rAt' m i).length = m.length) && lineS 0 (rAt' m i)
def sqOk (m : List (List Int)) (i : Nat) : Bool := decide ((rAt' m i).length = m.length) && (rAt' m i).all fun x => inB x (-1) 1
def linesOk (m : List (List Int)) (k : Nat) : Bool := lineS 0 (rAt' m k) && lineS 0 (colL m k)
def sqB (m : List (List Int)) : Bool := allFrom (sqOk m) 0 m.length && inB m.length 1 5
def altB (m : List (List Int)) : Bool := allFrom (rowOk m) 0 m.length && (allFrom (fun k => lineS 0 (colL m k)) 0 m.length && inB m.length 1 5)
theorem lineS_all {l : List Int} : ∀ {s : Int}, lineS s l = true → ∀ x ∈ l, -1 ≤ x ∧ x ≤ 1 := by
  induction l with
  | nil => intro s _ x hx; simp at hx
  | cons y l ih =>
    intro s h x hx
    simp only [lineS, Bool.and_eq_true] at h
    rcases List.mem_cons.1 hx with rfl | hx
    · exact inB_true.1 h.1
    · exact ih h.2.2 x hx
theorem altB_eq (m : List (List Int)) : altB m = (sqB m && allFrom (linesOk m) 0 m.length) := by
  rw [Bool.eq_iff_iff]
  simp only [altB, sqB, Bool.and_eq_true, allFrom_iff, rowOk, sqOk, linesOk, decide_eq_true_eq, List.all_eq_true]
  constructor
  · rintro ⟨h1, h2, h3⟩
    exact ⟨⟨fun i hi => ⟨(h1 i hi).1, fun x hx => inB_true.2 (lineS_all (h1 i hi).2 x hx)⟩, h3⟩, fun i hi => ⟨(h1 i hi).2, h2 i hi⟩⟩
  · rintro ⟨⟨h1, h2⟩, h3⟩
    exact ⟨fun i hi => ⟨(h1 i hi).1, (h3 i hi).1⟩, fun i hi => (h3 i hi).2, h2⟩
set_option maxHeartbeats 1000000 in
theorem isByTurns_any (A : Option Addr) (N c : Nat) (l : List Int) (w : World) (hN : N = l.length) (hl : N ≤ 1048576) (h1 : ∀ x ∈ l, -1 ≤ x ∧ x ≤ 1) (hr : RdI w A l) :
    Calls Try.prog 137 #[.slice A N c] w fun e w' => e = .returned (.bool (lineS 0 l)) ∧ w = w' := by
  have HN := Lib.hid hN
  have Hr := Lib.hid hr
  have H1 := Lib.hid h1
  clear hN hr h1
  go_enter Try.func137, Try.ntmps137
  go_wp2
  go_loop [3, 8] (fun q i => ∃ (k : Nat) (s : Int), k ≤ N ∧ i = .int .i64 k ∧ q = .int .i64 s ∧ 0 ≤ s ∧ s ≤ 1 ∧ Hid (lineS 0 l = lineS s (l.drop k))) (fun _ i => N - (intOf i).toNat)
  case atStart => exact ⟨0, 0, by omega, rfl, rfl, by omega, by omega, Lib.hid (by simp)⟩
  case round =>
    obtain ⟨k, s, hk, rfl, rfl, hs0, hs1, hall⟩ := hrel
    by_cases hlt : k < N
    · obtain ⟨b, off, x, rfl, hb, hx, hd, _, cx⟩ := Hr.out.at_ (k := k) (by have := HN.out; omega)
      have hx1 := H1.out x (List.mem_of_getElem? hx)
      have hin : inB x (-1) 1 = true := inB_true.2 hx1
      have H := Lib.hid (show lineS 0 l = (inB (s + x) 0 1 && lineS (s + x) (l.drop (k + 1))) by rw [hall.out, hd, lineS, hin, Bool.true_and])
      clear hx hd hin hall
      cases hin2 : inB (s + x) 0 1
      · go_wp2_with (go_at_call 89; refine (within_any _ _ _ _).mono ?_; rintro e wn ⟨rfl, rfl⟩)
        go_ret
        exact ⟨ret_bool (by rw [H.out, hin2]; rfl), rfl⟩
      · have h2 := inB_true.1 hin2
        have H2 := Lib.hid (show lineS 0 l = lineS (s + x) (l.drop (k + 1)) by rw [H.out, hin2, Bool.true_and])
        go_wp2_with (go_at_call 89; refine (within_any _ _ _ _).mono ?_; rintro e wn ⟨rfl, rfl⟩)
        go_round
        case rel => exact ⟨k + 1, s + x, by omega, by go_num, rfl, by omega, by omega, H2⟩
        case measure => simp [intOf]; omega
    · obtain rfl : k = N := by omega
      have H := Lib.hid (show lineS 0 l = (s == 1) by rw [hall.out, List.drop_eq_nil_of_le (by have := HN.out; omega)]; rfl)
      clear hall
      go_wp2
      go_ret
      exact ⟨ret_bool (by rw [H.out]), rfl⟩
set_option maxHeartbeats 1000000 in
theorem l25Line_any (A : Option Addr) (N c : Nat) (l : List Int) (w : World) (hN : N = l.length) (hl : N ≤ 1048576) (hr : RdI w A l) :
    Calls Try.prog 213 #[.slice A N c] w fun e w' => e = .returned (.bool (lineS 0 l)) ∧ w = w' := by
  have HN := Lib.hid hN
  have Hr := Lib.hid hr
  clear hN hr
  go_enter Try.func213, Try.ntmps213
  go_wp2
  go_loop [3, 4] (fun q i => ∃ (k : Nat) (s : Int), k ≤ N ∧ i = .int .i64 k ∧ q = .int .i64 s ∧ 0 ≤ s ∧ s ≤ 1 ∧ Hid (lineS 0 l = lineS s (l.drop k))) (fun _ i => N - (intOf i).toNat)
  case atStart => exact ⟨0, 0, by omega, rfl, rfl, by omega, by omega, Lib.hid (by simp)⟩
  case round =>
    obtain ⟨k, s, hk, rfl, rfl, hs0, hs1, hall⟩ := hrel
    by_cases hlt : k < N
    · obtain ⟨b, off, x, rfl, hb, hx, hd, _, cx⟩ := Hr.out.at_ (k := k) (by have := HN.out; omega)
      have H := Lib.hid (show lineS 0 l = (inB x (-1) 1 && (inB (s + x) 0 1 && lineS (s + x) (l.drop (k + 1)))) by rw [hall.out, hd, lineS])
      clear hx hd hall
      cases hin : inB x (-1) 1
      · go_wp2_with (go_at_call 128; refine (l01In_any _ _ _ _).mono ?_; rintro e wn ⟨rfl, rfl⟩)
        go_ret
        exact ⟨ret_bool (by rw [H.out, hin]; rfl), rfl⟩
      · have h1 := inB_true.1 hin
        cases hin2 : inB (s + x) 0 1
        · go_wp2_with (go_at_call 128; refine (l01In_any _ _ _ _).mono ?_; rintro e wn ⟨rfl, rfl⟩)
          go_ret
          exact ⟨ret_bool (by rw [H.out, hin2, hin]; rfl), rfl⟩
        · have h2 := inB_true.1 hin2
          have H2 := Lib.hid (show lineS 0 l = lineS (s + x) (l.drop (k + 1)) by rw [H.out, hin2, hin, Bool.true_and, Bool.true_and])
          go_wp2_with (go_at_call 128; refine (l01In_any _ _ _ _).mono ?_; rintro e wn ⟨rfl, rfl⟩)
          go_round
          case rel => exact ⟨k + 1, s + x, by omega, by go_num, rfl, by omega, by omega, H2⟩
          case measure => simp [intOf]; omega
    · obtain rfl : k = N := by omega
      have H := Lib.hid (show lineS 0 l = (s == 1) by rw [hall.out, List.drop_eq_nil_of_le (by have := HN.out; omega)]; rfl)
      clear hall
      go_wp2
      go_ret
      exact ⟨ret_bool (by rw [H.out]), rfl⟩
set_option maxHeartbeats 1000000 in
theorem isSquare_any (A : Option Addr) (N c : Nat) (m : List (List Int)) (w : World) (hN : N = m.length) (hl : N ≤ 1048576) (hll : ∀ r ∈ m, r.length ≤ 1048576) (hr : RdII w A m) :
    Calls Try.prog 136 #[.slice A N c] w fun e w' => e = .returned (.bool (sqB m)) ∧ w = w' := by
  have HN := Lib.hid hN
  have Hr := Lib.hid hr
  have Hll := Lib.hid hll
  have hgo := Lib.hid (show sqB m = (allFrom (sqOk m) 0 N && inB (N : Int) 1 5) by rw [sqB, hN])
  clear hN hr hll
  go_enter Try.func136, Try.ntmps136
  go_wp2
  go_loop [7] (fun q => ∃ k : Nat, k ≤ N ∧ q = .int .i64 k ∧ Hid (sqB m = (allFrom (sqOk m) k N && inB (N : Int) 1 5))) (fun q => N - (intOf q).toNat)
  case atStart => exact ⟨0, by omega, rfl, hgo⟩
  case round =>
    obtain ⟨k, hk, rfl, hall⟩ := hrel
    by_cases hlt : k < N
    · obtain ⟨b, off, l, A1, c1, rfl, hb, hx, _, hrl, hc⟩ := Hr.out.at_ (k := k) (by have := HN.out; omega)
      have hll : l.length ≤ 1048576 := Hll.out l (List.mem_of_getElem? hx)
      have h1 := allFrom_step (f := sqOk m) hlt
      have h2 : sqOk m k = (decide (l.length = N) && l.all fun x => inB x (-1) 1) := by rw [sqOk, rAt'_eq hx, HN.out]
      obtain ⟨L, hL⟩ : ∃ L, L = l.length := ⟨_, rfl⟩
      rw [← hL] at hc hll h2
      have H := Lib.hid (show sqB m = ((decide (L = N) && l.all fun x => inB x (-1) 1) && allFrom (sqOk m) (k + 1) N && inB (N : Int) 1 5) by rw [hall.out, h1, h2])
      have HL := Lib.hid hL
      have Hrl := Lib.hid hrl
      clear hx h1 h2 hall hL hrl
      by_cases hLN : L = N
      · subst hLN
        cases ha : l.all fun x => inB x (-1) 1
        · have Ha := Lib.hid ha
          go_wp2_with (go_at_call 90; refine (allWithin_n A1 L c1 l (-1) 1 _ HL.out hll Hrl.out).mono ?_; rintro e w1 ⟨rfl, rfl⟩)
          go_ret
          exact ⟨ret_bool (by rw [H.out, Ha.out]; simp), rfl⟩
        · have Ha := Lib.hid ha
          go_wp2_with (go_at_call 90; refine (allWithin_n A1 L c1 l (-1) 1 _ HL.out hll Hrl.out).mono ?_; rintro e w1 ⟨rfl, rfl⟩)
          go_round
          case rel => exact ⟨k + 1, by omega, by go_num, Lib.hid (by rw [H.out, Ha.out]; simp)⟩
          case measure => simp [intOf]; omega
      · have hne : ((L : Int) != (N : Int)) = true := by simp; omega
        have HLN := Lib.hid hLN
        clear hLN
        go_wp2_with fail
        go_ret
        exact ⟨ret_bool (by rw [H.out]; simp [HLN.out]), rfl⟩
    · obtain rfl : k = N := by omega
      have H := Lib.hid (show sqB m = inB (k : Int) 1 5 by rw [hall.out, allFrom_end, Bool.true_and])
      clear hall
      go_wp2_with (go_at_call 89; refine (within_any _ _ _ _).mono ?_; rintro e wn ⟨rfl, rfl⟩)
      go_ret
      exact ⟨ret_bool (by rw [H.out]), rfl⟩
theorem colL_snoc {m : List (List Int)} {i k : Nat} {r : List Int} {x : Int} (h : m[i]? = some r) (hx : r[k]? = some x) : colL (m.take (i + 1)) k = colL (m.take i) k ++ [x] := by
  rw [take_snoc_at h]; simp [colL, iAt_eq hx]
theorem colL_len (m : List (List Int)) (k : Nat) : (colL m k).length = m.length := by simp [colL]
theorem sqB_iff {m : List (List Int)} : sqB m = true ↔ (∀ r ∈ m, r.length = m.length ∧ ∀ x ∈ r, -1 ≤ x ∧ x ≤ 1) ∧ 1 ≤ m.length ∧ m.length ≤ 5 := by
  simp only [sqB, Bool.and_eq_true, allFrom_iff, sqOk, decide_eq_true_eq, List.all_eq_true, inB_true]
  constructor
  · rintro ⟨h1, h2, h3⟩
    refine ⟨fun r hr => ?_, by omega, by omega⟩
    obtain ⟨i, hi, rfl⟩ := List.getElem_of_mem hr
    have := h1 i hi
    rwa [rAt'_eq (List.getElem?_eq_getElem hi)] at this
  · rintro ⟨h1, h2, h3⟩
    refine ⟨fun i hi => ?_, by omega, by omega⟩
    rw [rAt'_eq (List.getElem?_eq_getElem hi)]
    exact h1 _ (List.getElem_mem hi)
theorem colL_rng {m : List (List Int)} (h : ∀ r ∈ m, r.length = m.length ∧ ∀ x ∈ r, -1 ≤ x ∧ x ≤ 1) {k : Nat} (hk : k < m.length) : ∀ x ∈ colL m k, -1 ≤ x ∧ x ≤ 1 := by
  intro x hx
  obtain ⟨r, hr, rfl⟩ := List.mem_map.1 hx
  have := h r hr
  rw [iAt_eq (List.getElem?_eq_getElem (by omega : k < r.length))]
  exact this.2 _ (List.getElem_mem _)
set_option maxRecDepth 100000 in
set_option maxHeartbeats 2000000 in
theorem IsAlternating_i (A : Option Addr) (N c : Nat) (m : List (List Int)) (w : World) (hN : N = m.length) (hl : N ≤ 1048576) (hll : ∀ r ∈ m, r.length ≤ 1048576) (hr : RdII w A m) :
    Calls Try.prog 54 #[.slice A N c] w fun e w' => e = .returned (.bool (altB m)) ∧ Below w.heap.size w w' := by
  have HN := Lib.hid hN
  have Hr := Lib.hid hr
  have Hll := Lib.hid hll
  have hB := Below.refl w.heap.size w
  cases h1 : sqB m
  · have hv := Lib.hid (show altB m = false by rw [altB_eq, h1]; rfl)
    have H1 := Lib.hid h1
    clear hN hr hll
    go_enter Try.func54, Try.ntmps54
    go_wp2_with (go_at_call 136; refine (isSquare_any A N c m _ HN.out hl Hll.out Hr.out).mono ?_; rintro e wn ⟨rfl, rfl⟩)
    go_ret
    exact ⟨ret_bool (by rw [hv.out]), hB⟩
  · have i1 := sqB_iff.1 h1
    have H1 := Lib.hid i1.1
    have hN5 : N ≤ 5 := by omega
    have hgo := Lib.hid (show altB m = allFrom (linesOk m) 0 N by rw [altB_eq, h1, Bool.true_and, hN])
    clear hN hr hll i1
    go_enter Try.func54, Try.ntmps54
    go_wp2_with (go_at_call 136; refine (isSquare_any A N c m _ HN.out hl Hll.out Hr.out).mono ?_; rintro e wn ⟨rfl, rfl⟩)
    go_loopw [12] (fun q wr => ∃ k : Nat, k ≤ N ∧ q = .int .i64 k ∧ Hid (altB m = allFrom (linesOk m) k N) ∧ Below w.heap.size w wr) (fun q _ => N - (intOf q).toNat)
    case atStart => exact ⟨0, by omega, rfl, hgo, hB⟩
    case round =>
      obtain ⟨k, hk, rfl, hall, hB'⟩ := hrel
      obtain ⟨wo, rfl⟩ : ∃ wo : World, wo = wr := ⟨_, rfl⟩
      have HB := Lib.hid hB'
      have hsz := hB'.size
      clear hB hB'
      by_cases hlt : k < N
      · obtain ⟨b, off, l, A1, c1, rfl, hb, hx, _, hrl, hc0⟩ := Hr.out.at_ (k := k) (by have := HN.out; omega)
        have hl1 := H1.out l (List.mem_of_getElem? hx)
        rw [← HN.out] at hl1
        have h1 := allFrom_step (f := linesOk m) hlt
        have h2 : linesOk m k = (lineS 0 l && lineS 0 (colL m k)) := by rw [linesOk, rAt'_eq hx]
        have H := Lib.hid (show altB m = (lineS 0 l && lineS 0 (colL m k) && allFrom (linesOk m) (k + 1) N) by rw [hall.out, h1, h2])
        have hcr := Lib.hid (colL_rng H1.out (k := k) (by have := HN.out; omega))
        rw [hl1.1] at hc0
        have HL := Lib.hid hl1.1
        have Hl1 := Lib.hid hl1.2
        have Hrl := Lib.hid hrl
        have e0 := Lib.hid (OwI.new_ (B := wo.heap.size) (w := wo) (Nat.le_refl _))
        clear hx hl1 h1 h2 hall hrl
        go_wp2_with fail
        go_loopw [4, 18] (fun v q wr => ∃ i : Nat, i ≤ N ∧ q = .int .i64 i ∧ OwI wo.heap.size wr v (colL (m.take i) k) ∧ Below wo.heap.size wo wr) (fun _ q _ => N - (intOf q).toNat)
        case atStart => exact ⟨0, by omega, rfl, by simpa [colL] using e0.out, bl_alloc (Below.refl _ _) _⟩
        case round =>
          obtain ⟨i, hi, rfl, own, hb1⟩ := hrel
          clear e0
          by_cases hlt1 : i < N
          · obtain ⟨b2, off2, r, A2, c2, hA2, hb2, hx, _, hrr, hc1⟩ := Hr.out.at_ (k := i) (by have := HN.out; omega)
            injection hA2 with hA2
            injection hA2 with e1 e2
            subst e1; subst e2
            have hr1 := (H1.out r (List.mem_of_getElem? hx)).1
            rw [← HN.out] at hr1
            rw [hr1] at hc1
            obtain ⟨b3, off3, y, rfl, hb3, hy, _, gy, cy⟩ := hrr.at_ (k := k) (by omega)
            have hc := ((bl_trans HB.out hb1).cell (p := ⟨b, off + i, none⟩) hb).trans hc1
            have cy1 := ((bl_trans HB.out hb1).cell (p := ⟨b3, off3 + k, none⟩) hb3).trans cy
            have hsn := Lib.hid (colL_snoc hx hy)
            have Ho := Lib.hid own
            have Hb1 := Lib.hid hb1
            have hlc : (colL (m.take i) k).length ≤ 1048576 := by rw [colL_len, List.length_take]; omega
            have hsz1 := hb1.size
            clear hx hr1 hrr hy cy own hb1 hc1
            go_wp2_with (at_builtin; refine wpList_as1I rfl (.tmp 22) (.tmp 27) rfl wo.heap.size _ _ _ rfl rfl Ho.out hsz1 hlc gy ?_; intro A3 L3 c3 w3 hL3 o3 b3 g3 s3; have HB3 := Lib.hid (b3 _ Hb1.out); have HO3 := Lib.hid o3; clear o3 b3 g3)
            go_roundw
            case rel => exact ⟨i + 1, by omega, by go_num, by rw [hsn.out]; exact HO3.out, HB3.out⟩
            case measure => simp [intOf]; omega
          · obtain rfl : i = N := by omega
            rw [List.take_of_length_le (by have := HN.out; omega)] at own
            obtain ⟨⟨A3, c3, rfl⟩, _⟩ := id own
            have hc := ((bl_trans HB.out hb1).cell (p := ⟨b, off + k, none⟩) hb).trans hc0
            have Ho := Lib.hid own
            have HB1 := Lib.hid (bl_trans HB.out hb1)
            have hcl := Lib.hid (colL_len m k)
            clear own hb1
            cases h3 : lineS 0 l
            · have H3 := Lib.hid h3
              go_wp2_with (go_at_call 137; refine (isByTurns_any A1 i c1 l _ HL.out.symm (by omega) Hl1.out (Hrl.out.below HB1.out)).mono ?_; rintro e wn ⟨rfl, rfl⟩)
              go_ret
              exact ⟨ret_bool (by rw [H.out, H3.out]; simp), HB1.out⟩
            · cases h4 : lineS 0 (colL m k)
              · have H3 := Lib.hid h3
                have H4 := Lib.hid h4
                go_wp2_with (first | (go_at_call 137; with_reducible refine (isByTurns_any A1 i c1 l _ HL.out.symm (by omega) Hl1.out (Hrl.out.below HB1.out)).mono ?_; rintro e wn ⟨rfl, rfl⟩) | (go_at_call 137; refine (isByTurns_any A3 _ c3 (colL m k) _ rfl (by rw [hcl.out]; have := HN.out; omega) hcr.out Ho.out.rd).mono ?_; rintro e wn ⟨rfl, rfl⟩))
                go_ret
                exact ⟨ret_bool (by rw [H.out, H3.out, H4.out]; simp), HB1.out⟩
              · have H3 := Lib.hid h3
                have H4 := Lib.hid h4
                go_wp2_with (first | (go_at_call 137; with_reducible refine (isByTurns_any A1 i c1 l _ HL.out.symm (by omega) Hl1.out (Hrl.out.below HB1.out)).mono ?_; rintro e wn ⟨rfl, rfl⟩) | (go_at_call 137; refine (isByTurns_any A3 _ c3 (colL m k) _ rfl (by rw [hcl.out]; have := HN.out; omega) hcr.out Ho.out.rd).mono ?_; rintro e wn ⟨rfl, rfl⟩))
                go_roundw
                case rel => exact ⟨k + 1, by omega, by go_num, Lib.hid (by rw [H.out, H3.out, H4.out]; simp), HB1.out⟩
                case measure => simp [intOf]; omega
      · obtain rfl : k = N := by omega
        have H := Lib.hid (show altB m = true by rw [hall.out, allFrom_end])
        clear hall
        go_wp2_with fail
        go_ret
        exact ⟨ret_bool (by rw [H.out]), HB.out⟩
end Go.Proofs.Ytdcjhfmkkcakhaa

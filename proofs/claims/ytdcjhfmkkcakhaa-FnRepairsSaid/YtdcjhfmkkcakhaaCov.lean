/-
  Coverings of a set of cells by tiles: their number (a plain model), slices of sets, and the contracts of firstCell and coverings: what each returns, as a function of its arguments; nothing that was there is written; no condition.
-/
import Derived.Test.YtdcjhfmkkcakhaaCover
import Derived.Test.YtdcjhfmkkcakhaaApp
namespace Go.Proofs.Ytdcjhfmkkcakhaa
open Go.ChangeShapes Go.WideShapes Go.ChangeAt Go.RowKit Go.Deep
set_option linter.unusedVariables false

/-! ### slices of sets -/
def cU (n : Nat) : Value := .int .u64 (n : Int)
def RdU (w : World) (A : Option Addr) (l : List Nat) : Prop := Rd w 1 A l.length (l.map cU) ∧ ∀ x ∈ l, x < 18446744073709551616
theorem RdU.below {w w' : World} {A : Option Addr} {l : List Nat} (h : RdU w A l) (hb : Below w.heap.size w w') : RdU w' A l := ⟨h.1.below hb, h.2⟩
theorem RdU.at_ {w : World} {A : Option Addr} {l : List Nat} (h : RdU w A l) {k : Nat} (hk : k < l.length) :
    ∃ b off x, A = some ⟨b, off, none⟩ ∧ b < w.heap.size ∧ l[k]? = some x ∧ x < 18446744073709551616 ∧ w.cell? ⟨b, off + k, none⟩ = some (.int .u64 (x : Int)) := by
  obtain ⟨b, off, e, hlt, hc⟩ := h.1.2 (by omega)
  have hx : l[k]? = some l[k] := List.getElem?_eq_getElem hk
  refine ⟨b, off, l[k], e, hlt, hx, h.2 _ (List.getElem_mem hk), hc k _ ?_⟩
  simp [hx, cU]
def OwU (B : Nat) (w : World) (v : Value) (l : List Nat) : Prop := (∃ A c, v = .slice A l.length c) ∧ w.ownsRow B 112 1 v l.length (l.map cU) ∧ ∀ x ∈ l, x < 18446744073709551616
theorem OwU.bel {B : Nat} {w w' : World} {v : Value} {l : List Nat} (h : OwU B w v l) (hb : Below w.heap.size w w') : OwU B w' v l := ⟨h.1, ownsRow_bel h.2.1 hb, h.2.2⟩
theorem OwU.mono {B B' : Nat} {w : World} {v : Value} {l : List Nat} (h : OwU B w v l) (hB : B' ≤ B) : OwU B' w v l := ⟨h.1, ownsRow_mono h.2.1 hB, h.2.2⟩
theorem OwU.rd {B : Nat} {w : World} {A : Option Addr} {n c : Nat} {l : List Nat} (h : OwU B w (.slice A n c) l) : RdU w A l := by
  obtain ⟨⟨A', c', e⟩, h1, h2⟩ := h
  injection e with e1 e2 e3
  subst e2
  exact ⟨Rd.of_own h1, h2⟩
theorem OwU.nil_ (B : Nat) (w : World) : OwU B w (.slice none 0 0) [] := ⟨⟨_, _, rfl⟩, World.ownsRow_nil _ _ _ _, by simp⟩
theorem OwU.new_ {B : Nat} {w : World} (hB : B ≤ w.heap.size) : OwU B (w.alloc (.cells #[] 112)) (.slice (some ⟨w.heap.size, 0, none⟩) 0 0) [] := ⟨⟨_, _, rfl⟩, World.ownsRow_made w #[] 0 hB (by simp [maxLen]) (by simp), by simp⟩
theorem wpList_appU {wr : World} {ops : Array Oper} {rest : List Oper} {o : Oper} {a : Act} {Q : Exit → Act → World → Prop} (hgd : o.guard = none) (s x : Operand) (ho : o.op = .call { callee := .builtin .append, args := #[s, x], argTypes := #[142, 142] })
    (B : Nat) (v : Value) (l : List Nat) (c : Nat) (hs : a.eval s = v) (hx : a.eval x = .slice (some ⟨wr.heap.size, 0, none⟩) 1 1) (hown : OwU B wr v l) (hB : B ≤ wr.heap.size) (hn : l.length ≤ 1048576) (hc : c < 18446744073709551616)
    (h : ∀ v' w1, OwU B w1 v' (l ++ [c]) → (∀ w, Below B w wr → Below B w w1) → (wr.alloc (.cells #[.int .u64 (c : Int)] 112)).grownBy w1 v.ownBlock → wpList Try.prog ops Q rest (a.put o.dst v') w1) :
    wpList Try.prog ops Q (o :: rest) a (wr.alloc (.cells #[.int .u64 (c : Int)] 112)) := by
  obtain ⟨_, o1, o2⟩ := hown
  refine append_one (P := Try.prog) hgd s x 142 ho B 112 (.int .u64 0) 1 8 Try.underlying142 (by kernel_rfl) rfl (by decide) (by decide) v l.length (l.map cU) [.int .u64 (c : Int)] hs hx o1 rfl (by simp [Value.oneCell']) hn hB (fun v' w1 g1 g2 => h v' w1 ⟨?_, ?_, ?_⟩ (fun w hb => below_grown o1 hB hb g2) g2)
  · simpa using own_form g1
  · simpa [cU] using g1
  · intro y hy
    rcases List.mem_append.1 hy with hy | hy
    · exact o2 y hy
    · simp at hy; subst hy; exact hc
/-! ### the least element of a set -/
def lowb (s : Nat) : Nat := ((List.range 64).find? s.testBit).getD 0
theorem lowb_spec {s : Nat} (hs : s < 18446744073709551616) (h0 : s ≠ 0) : lowb s < 64 ∧ s.testBit (lowb s) = true ∧ ∀ j < lowb s, s.testBit j = false := by
  unfold lowb
  cases h : (List.range 64).find? s.testBit with
  | none =>
    exfalso
    apply h0
    apply Nat.eq_of_testBit_eq; intro i
    rw [Nat.zero_testBit]
    by_cases hi : i < 64
    · rw [List.find?_eq_none] at h
      simpa using h i (List.mem_range.2 hi)
    · exact Nat.testBit_lt_two_pow (Nat.lt_of_lt_of_le hs (by
        have : 2 ^ 64 ≤ 2 ^ i := Nat.pow_le_pow_right (by decide) (by omega)
        omega))
  | some k =>
    rw [List.find?_range_eq_some] at h
    refine ⟨List.mem_range.1 h.2.1, h.1, fun j hj => by simpa using h.2.2 j hj⟩
theorem lowb_eq {s k : Nat} (hk : k < 64) (h1 : s.testBit k = true) (h2 : ∀ j < k, s.testBit j = false) : lowb s = k := by
  have : (List.range 64).find? s.testBit = some k := by
    rw [List.find?_range_eq_some]
    exact ⟨h1, List.mem_range.2 hk, fun j hj => by simp [h2 j hj]⟩
  unfold lowb; rw [this]; rfl
/-! ### the number of coverings -/
def covSum (g : Nat → Int) (s : Nat) (l : List Nat) : Int := (l.map fun own => if s &&& own == own then g own else 0).sum
def covs (tiles : Nat → List Nat) : Nat → Nat → Int
  | 0, s => if s = 0 then 1 else 0
  | f + 1, s => if s = 0 then 1 else covSum (fun own => covs tiles f (bdiff s own)) s (tiles (lowb s))
theorem covs_zero (tiles : Nat → List Nat) (f : Nat) : covs tiles f 0 = 1 := by cases f <;> simp [covs]
theorem covs_succ (tiles : Nat → List Nat) (f : Nat) {s : Nat} (h : s ≠ 0) : covs tiles (f + 1) s = covSum (fun own => covs tiles f (bdiff s own)) s (tiles (lowb s)) := by rw [covs, if_neg h]
theorem sum_app (a b : List Int) : (a ++ b).sum = a.sum + b.sum := by
  induction a with
  | nil => simp
  | cons x a ih => simp only [List.cons_append, List.sum_cons, ih]; omega
theorem covSum_app (g : Nat → Int) (s : Nat) (a b : List Nat) : covSum g s (a ++ b) = covSum g s a + covSum g s b := by unfold covSum; rw [List.map_append, sum_app]
theorem covSum_nil (g : Nat → Int) (s : Nat) : covSum g s [] = 0 := rfl
theorem covSum_one (g : Nat → Int) (s own : Nat) : covSum g s [own] = if s &&& own == own then g own else 0 := by simp [covSum]
theorem covSum_step (g : Nat → Int) (s : Nat) {l : List Nat} {k own : Nat} (h : l[k]? = some own) : covSum g s (l.take (k + 1)) = covSum g s (l.take k) + if s &&& own == own then g own else 0 := by
  rw [take_snoc_at h, covSum_app, covSum_one]
theorem wrap_add (a b : Int) : wrap64 (wrap64 a + wrap64 b) = wrap64 (a + b) := by unfold wrap64; omega
theorem wrap_add_r (a b : Int) : wrap64 (a + wrap64 b) = wrap64 (a + b) := by unfold wrap64; omega
theorem wrap_i64 (a : Int) : IntKind.i64.wrap a = wrap64 a := IntWalk.i64_left a
theorem u64_bit0 (s n : Nat) (hs : s < 18446744073709551616) : (bits BinOp.and IntKind.u64 ((s : Int) / 2 ^ n) 1 == 0) = !s.testBit n := by
  have h1 : s >>> n < 18446744073709551616 := Nat.lt_of_le_of_lt (Nat.shiftRight_le _ _) hs
  have e : bits BinOp.and IntKind.u64 ((s >>> n : Nat) : Int) ((1 : Nat) : Int) = ((s >>> n &&& 1 : Nat) : Int) := u64_and_nat _ _ h1 (by decide)
  have h2 := u64_bit s n hs
  rw [cast_div_pow] at h2 ⊢
  rw [show (1 : Int) = ((1 : Nat) : Int) from rfl, e] at h2 ⊢
  have h3 : s >>> n &&& 1 = 0 ∨ s >>> n &&& 1 = 1 := by
    rw [Nat.and_one_is_mod]; omega
  rcases h3 with h3 | h3
  · rw [h3] at h2 ⊢; simp at h2; simp [h2]
  · rw [h3] at h2 ⊢; simp at h2; simp [h2]
theorem res_cell {fn : Func} {s g : Nat} (hres : fn.results = #[.cell s 35]) {tmps : Array Value} {w : World} {a b : Value}
    (h1 : tmps.getD s undef = .pointer (some ⟨g, 0, none⟩)) (B : Blk w g 35 [a, b]) : (results fn tmps).run Try.prog w = .ok (.agg #[a, b]) w := by
  have c1 := B.c2
  simp only [Array.getD_eq_getD_getElem?] at h1
  simp [results, hres, h1, go_sem, c1]
set_option maxHeartbeats 1000000 in
theorem firstCell_any (s : Nat) (w : World) (hs : s < 18446744073709551616) (h0 : s ≠ 0) :
    Calls Try.prog 191 #[.int .u64 (s : Int)] w fun e w' => e = .returned (.agg #[.int .i64 (cellOf (lowb s)).1, .int .i64 (cellOf (lowb s)).2]) ∧ Below w.heap.size w w' := by
  obtain ⟨p1, p2, p3⟩ := lowb_spec hs h0
  obtain ⟨q, hq⟩ : ∃ q, q = lowb s := ⟨_, rfl⟩
  rw [← hq] at p1 p2 p3 ⊢
  have H2 := Lib.hid p2
  have H3 := Lib.hid p3
  have hB := bl_alloc (Below.refl w.heap.size w) (.cells #[.int .i64 0, .int .i64 0] 35)
  have P := Blk.new w 35 [.int .i64 0, .int .i64 0]
  have Pc := P.c2
  clear p2 p3 hq h0
  go_enter Try.func191, Try.ntmps191
  go_wp2
  go_loop [3] (fun i => ∃ k : Nat, k ≤ q ∧ i = .int .i64 k) (fun i => q - (intOf i).toNat)
  case atStart => exact ⟨0, by omega, rfl⟩
  case round =>
    obtain ⟨k, hk, rfl⟩ := hrel
    have hbit := u64_bit0 s k hs
    by_cases hkq : k < q
    · rw [H3.out k hkq] at hbit
      go_wp2
      go_round
      case rel => exact ⟨k + 1, by omega, by go_num⟩
      case measure => simp [intOf]; omega
    · obtain rfl : k = q := by omega
      rw [H2.out] at hbit
      go_wp2_with (go_at_call 179; refine (cellAt_any k _ (by omega)).mono ?_; rintro e wn ⟨rfl, hbn⟩; replace hB := bl_trans (bl_trans hB (by go_grown)) hbn; replace P := P.bel hbn; replace Pc := P.c2; have f0 := P.frozen 0; have f1 := P.frozen 1)
      exact bodyPost_ret (res_cell rfl rfl ((P.set_ 0 _).set_ 1 _)) rfl ⟨rfl, (by first | (go_grown; done) | exact bl_trans hB (by go_grown))⟩
def TilesOk (fc : Nat) (caps : Array Value) (tiles : Nat → List Nat) (w0 : World) : Prop :=
  (∀ (args : Array Value) (w : World), (callFunc fc args).run Try.prog w = .ok (.enter fc args) w) ∧
  (∀ (i : Nat) (w : World), i < 64 → Below w0.heap.size w0 w → Calls Try.prog fc (#[.agg #[.int .i64 (cellOf i).1, .int .i64 (cellOf i).2]] ++ caps) w fun e w' => ∃ v, e = .returned v ∧ OwU w.heap.size w' v (tiles i) ∧ Below w.heap.size w w') ∧
  ∀ i < 64, (tiles i).length ≤ 1000 ∧ ∀ own ∈ tiles i, own ≠ 0
set_option maxRecDepth 100000 in
set_option maxHeartbeats 1000000 in
theorem coverings_any (fc : Nat) (caps : Array Value) (tiles : Nat → List Nat) (w0 : World) (ht : TilesOk fc caps tiles w0) : ∀ (f s : Nat) (w : World), Below w0.heap.size w0 w → s < 18446744073709551616 → card s ≤ f →
    Calls Try.prog 124 #[.int .u64 (s : Int), .func (.func fc) #[] caps] w fun e w' => e = .returned (.int .i64 (wrap64 (covs tiles f s))) ∧ Below w.heap.size w w' := by
  have HT := Lib.hid ht
  clear ht
  intro f
  induction f with
  | zero =>
    intro s w hb0 hs hc
    obtain rfl : s = 0 := (card_zero hs).1 (by omega)
    have hW := Below.refl w.heap.size w
    go_enter Try.func124, Try.ntmps124
    go_wp2
    go_ret
    exact ⟨ret_int (by rw [covs_zero]; exact (IntWalk.wrap64_in 1 (by omega)).symm), hW⟩
  | succ f ih =>
    intro s w hb0 hs hc
    have Ih := Lib.hid ih
    have Hb0 := Lib.hid hb0
    have HC := Lib.hid hc
    have hB := Below.refl w.heap.size w
    clear ih hb0 hc
    by_cases h0 : s = 0
    · subst h0
      have hW := Below.refl w.heap.size w
      go_enter Try.func124, Try.ntmps124
      go_wp2
      go_ret
      exact ⟨ret_int (by rw [covs_zero]; exact (IntWalk.wrap64_in 1 (by omega)).symm), hW⟩
    · have hl := (lowb_spec hs h0).1
      have hz : ((s : Int) == 0) = false := by simp; exact h0
      obtain ⟨q, hq⟩ : ∃ q, q = lowb s := ⟨_, rfl⟩
      have HS := Lib.hid (covs_succ tiles f h0)
      have H0 := Lib.hid h0
      have hfc := firstCell_any s
      rw [← hq] at hl HS hfc
      obtain ⟨ts, hts⟩ : ∃ ts, ts = tiles q := ⟨_, rfl⟩
      have hlen := (HT.out.2.2 q hl).1
      rw [← hts] at hlen HS
      obtain ⟨M, hM⟩ : ∃ M, M = ts.length := ⟨_, rfl⟩
      rw [← hM] at hlen
      have HM := Lib.hid hM
      have HTS := Lib.hid hts
      have HFC := Lib.hid hfc
      obtain ⟨g, hg⟩ : ∃ g : Nat → Int, g = fun own => covs tiles f (bdiff s own) := ⟨_, rfl⟩
      rw [← hg] at HS
      have HG := Lib.hid hg
      have hent := HT.out.1
      clear hq hfc hts hM hg h0
      go_enter Try.func124, Try.ntmps124
      go_wp2_with (first | (go_at_call 191; refine (HFC.out _ hs H0.out).mono ?_; rintro e wn ⟨rfl, hbn⟩; replace hB := bl_trans (bl_trans hB (by go_grown)) hbn) | ((refine (HT.out.2.1 q _ hl (Hb0.out.trans ((bl_trans hB (by go_grown)).mono Hb0.out.size))).mono ?_); rintro e wt ⟨v, rfl, o1, hbt⟩; replace hB := bl_trans (bl_trans hB (by go_grown)) hbt; rw [← HTS.out] at o1; obtain ⟨⟨A, c, rfl⟩, _⟩ := id o1; rw [← HM.out] at o1 ⊢; have R := Lib.hid o1.rd; clear o1))
      have HBt := Lib.hid hB
      clear hB
      go_loopw [5, 15] (fun n i wr => ∃ k : Nat, k ≤ M ∧ i = .int .i64 k ∧ n = .int .i64 (wrap64 (covSum g s (ts.take k))) ∧ Below wt.heap.size wt wr) (fun _ i _ => M - (intOf i).toNat)
      case atStart => exact ⟨0, by omega, rfl, by rw [List.take_zero, covSum_nil, IntWalk.wrap64_in 0 (by omega)], Below.refl _ _⟩
      case round =>
        obtain ⟨k, hk, rfl, rfl, hBr⟩ := hrel
        by_cases hkM : k < M
        · obtain ⟨b, off, own, rfl, hb, hv, hown, hc⟩ := (R.out.below hBr).at_ (k := k) (by have := HM.out; omega)
          have hstep := covSum_step g s hv
          have hne : own ≠ 0 := (HT.out.2.2 q hl).2 own (by rw [← HTS.out]; exact List.mem_of_getElem? hv)
          obtain ⟨n, hn⟩ : ∃ n, n = wrap64 (covSum g s (ts.take k)) := ⟨_, rfl⟩
          rw [← hn]
          have hand := u64_and_nat s own hs hown
          have handn := u64_andNot_nat s own hs hown
          by_cases c4 : s &&& own = own
          · have hn2 : wrap64 (covSum g s (ts.take (k + 1))) = wrap64 (n + wrap64 (g own)) := by
              rw [hstep, hn, wrap_add, if_pos (by simpa using c4)]
            obtain ⟨x, hx⟩ : ∃ x, x = wrap64 (g own) := ⟨_, rfl⟩
            rw [← hx] at hn2
            have HX := Lib.hid (show wrap64 (covs tiles f (bdiff s own)) = x by rw [hx, HG.out])
            obtain ⟨n2, hn3⟩ : ∃ n2, n2 = wrap64 (n + x) := ⟨_, rfl⟩
            have hw1 : wrap64 (n + x) = n2 := hn3.symm
            have hw2 : IntKind.i64.wrap (n + x) = n2 := by rw [wrap_i64, hw1]
            have HN2 := Lib.hid (hn2.trans hw1)
            have hne2 : (bits BinOp.and IntKind.u64 (s : Int) (own : Int) == (own : Int)) = true := by rw [hand, c4]; simp
            have hcd := card_diff hs hown c4
            have hc1 : card own ≠ 0 := fun e => hne ((card_zero hown).1 e)
            have hcf : card (bdiff s own) ≤ f := by have := HC.out; omega
            have hbl := bdiff_lt (b := own) hs
            have HBr := Lib.hid hBr
            have hB := Below.refl wr.heap.size wr
            obtain ⟨s2, hs2⟩ : ∃ s2, s2 = bdiff s own := ⟨_, rfl⟩
            rw [← hs2] at HX hcf hbl
            have handn2 : bits BinOp.andNot IntKind.u64 (s : Int) (own : Int) = (s2 : Int) := by rw [hs2]; exact handn
            have HIh := Lib.hid (Ih.out s2 wr (Hb0.out.trans ((HBt.out.trans (hBr.mono HBt.out.size)).mono Hb0.out.size)) hbl hcf)
            clear hstep hn hn2 hx hn3 c4 hne hcd hc1 hand handn hs2 hv hBr
            go_wp2_with (go_at_call 124; refine HIh.out.mono ?_; rintro e wn ⟨rfl, hbn⟩; rw [HX.out])
            go_roundw
            case rel => exact ⟨k + 1, by omega, by go_num, by rw [HN2.out], HBr.out.trans (hbn.mono HBr.out.size)⟩
            case measure => simp [intOf]; omega
          · have hne2 : (bits BinOp.and IntKind.u64 (s : Int) (own : Int) == (own : Int)) = false := by rw [hand]; simp; omega
            have HN2 := Lib.hid (show wrap64 (covSum g s (ts.take (k + 1))) = n by rw [hstep, if_neg (by simpa using c4), Int.add_zero, ← hn])
            clear hstep hn c4 hne hand handn hv
            go_wp2_with fail
            go_roundw
            case rel => exact ⟨k + 1, by omega, by go_num, by rw [HN2.out], hBr⟩
            case measure => simp [intOf]; omega
        · have HE := Lib.hid (show wrap64 (covSum g s (ts.take k)) = wrap64 (covs tiles (f + 1) s) by rw [List.take_of_length_le (by have := HM.out; omega), HS.out])
          have HBr := Lib.hid (HBt.out.trans (hBr.mono HBt.out.size))
          go_wp2_with fail
          go_ret
          exact ⟨ret_int HE.out, HBr.out⟩
end Go.Proofs.Ytdcjhfmkkcakhaa

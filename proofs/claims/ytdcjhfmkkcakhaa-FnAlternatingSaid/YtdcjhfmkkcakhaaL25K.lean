/-
  The closure of ListAlternating of the program: what it makes of the variables. No statement is proved here.
-/
import Derived.Test.YtdcjhfmkkcakhaaL25J
import Derived.Deep.CutRange
import Derived.Laws.EntriesVeiled
import Derived.StillTailTactics
import Derived.Deep.RegionLaw
import Derived.Deep.DeepMust
namespace Go.Proofs.Ytdcjhfmkkcakhaa
open Go.ChangeShapes Go.WideShapes Go.ChangeAt Go.RowKit Go.Deep
set_option linter.unusedVariables false
theorem step_apIn2 {wr : World} {ops : Array Oper} {o : Oper} {a : Act} {K : Act → World → Prop} {Q : Exit → Act → World → Prop} {E : Prop} (hgd : o.guard = none) (s x : Operand) (ho : o.op = .call { callee := .builtin .append, args := #[s, x], argTypes := #[78, 78] })
    (lo lo2 hi : Nat) (v : Value) (ll : List (List (List Int))) (u : Value) (l : List (List Int)) (a' b' : Nat) (hs : a.eval s = v) (hx : a.eval x = .slice (some ⟨wr.heap.size, 0, none⟩) 1 1) (hown : InS2 76 InII lo lo2 hi wr v ll) (hu : InII a' b' wr u l) (hia : hi ≤ a') (hla : lo ≤ hi) (hl2 : lo2 ≤ hi) (hab : a' ≤ b') (hbw : b' ≤ wr.heap.size) (hn : ll.length ≤ 1048576)
    (h : ∀ A' L c' w1, Hid (L = (ll ++ [l]).length) → InS2 76 InII lo lo2 w1.heap.size w1 (.slice A' L c') (ll ++ [l]) → wr.grownBy w1 v.ownBlock → ((Value.slice A' L c').ownBlock = v.ownBlock ∨ ∀ k, (Value.slice A' L c').ownBlock = some k → wr.heap.size ≤ k) → K (a.put o.dst (.slice A' L c')) w1) :
    if Region.wanted o (yielded ops a.tmps) = true then Oper.wp Try.prog o a (wr.alloc (.cells #[u] 76)) K Q else E := by
  obtain ⟨_, h2, vs, o1, o2⟩ := hown
  have hal : Below wr.heap.size wr (wr.alloc (.cells #[u] 76)) := Below.alloc (Below.refl _ _) (Nat.le_refl _) _
  refine step_append_src (P := Try.prog) hgd s x 78 ho lo 76 (.slice none 0 0) 1 24 Try.underlying78 (by kernel_rfl) rfl (by decide) (by decide) v ll.length vs hs (o1.alloc _) (some ⟨wr.heap.size, 0, none⟩) 1 1 [u] hx ((Blk.new wr 76 [u]).rd rfl) (by intro y hy; simp at hy; subst hy; exact famR_II.one hu) hn (by omega) (by rw [World.size_alloc]; omega) (fun v' w1 g1 g2 g3 => ?_)
  have g2' := grown_bel hal g2
  obtain ⟨A', c', rfl⟩ := own_form g1
  have g3' : (Value.slice A' (ll.length + 1) c').ownBlock = v.ownBlock ∨ ∀ k, (Value.slice A' (ll.length + 1) c').ownBlock = some k → wr.heap.size ≤ k := by
    rcases g3 with g3 | g3
    · exact .inl g3
    · exact .inr fun k hk => by rw [hk] at g3; injection g3 with g3; rw [g3, World.size_alloc]; omega
  have := InS2.snoc (T := 76) (I := InII) famR_II (lo := lo) (ll := ll) (w := wr) h2 o2 hu hia (by omega) hab hbw g1 g2' g3'
  rw [show ll.length + 1 = (ll ++ [l]).length by simp] at this g3' ⊢
  exact h A' _ c' w1 (Lib.hid rfl) this g2' g3'
def argsL (p : LP) (k : Nat) (sum : Int) : Array Value := #[.int .i64 (k : Int), .int .i64 sum, .pointer (some ⟨p.gn, 0, none⟩), .pointer (some ⟨p.gm, 0, none⟩), .pointer (some ⟨p.go, 0, none⟩), .pointer (some ⟨p.gc, 0, none⟩), .pointer (some ⟨p.gr, 0, none⟩)]
set_option maxRecDepth 100000 in
set_option maxHeartbeats 4000000 in
theorem rest25_zero (p : LP) (K : p.Ok) (w0 : World) (k : Nat) (sum : Int) (F cols : List Int) (out : List (List (List Int))) (w : World) (hk : k = p.n * p.n) (hs : 0 ≤ sum ∧ sum ≤ 1) (hL : LA p w0 w F cols out) (hlen : (out ++ im25 p.n 0 k sum (F.take k) cols).length ≤ 1000) :
    Calls Try.prog 132 (argsL p k sum) w fun e w' => e = .returned (.tuple #[]) ∧ ∃ F', LA p w0 w' F' cols (out ++ im25 p.n 0 k sum (F.take k) cols) ∧ F'.take k = F.take k := by
  have n1 := K.n1
  have n4 := K.n4
  have hnn : p.n * p.n ≤ 16 := Nat.mul_le_mul n4 n4
  have hn1 : 1 ≤ p.n * p.n := Nat.mul_pos n1 n1
  have hmod : k % p.n = 0 := by rw [hk]; exact Nat.mul_mod_left _ _
  have hkn : ((k : Nat) : Int) = ((p.n * p.n : Nat) : Int) := by rw [hk]
  have hk0 : 0 < k := by omega
  have hmi : ((k : Int)).tmod (p.n : Int) = 0 := by rw [Int.tmod_eq_emod_of_nonneg (by omega)]; omega
  have hhd : hd25 p.n k sum = (sum != 1) := by simp [hd25, hk0, hmod]
  have HE := Lib.hid (show im25 p.n 0 k sum (F.take k) cols = if sum != 1 then [] else if altB (chunk p.n F) then [chunk p.n F] else [] by
    rw [im25_zero, hhd, List.take_of_length_le (by rw [hL.fl, hk]; exact Nat.le_refl _)])
  have hq1 : decide ((k : Int) > 0) = true := decide_eq_true (by omega)
  have hw1 : IntKind.i64.wrap ((p.n : Int) * (p.n : Int)) = (k : Int) := by
    rw [show (p.n : Int) * (p.n : Int) = ((p.n * p.n : Nat) : Int) by push_cast; rfl, ← hk]
    exact IntWalk.i64_in _ (by omega)
  have hkk : ((k : Int) == (k : Int)) = true := by simp
  have cn := hL.nb.c1
  have cm := hL.mb.c1
  obtain ⟨A, L, c, o1, o2, o3⟩ := hL.ob
  have co := o1.c1
  have of := o1.frozen 0
  have HL := Lib.hid hL
  have hrd := Lib.hid (hL.rdII K)
  have hcl := Lib.hid (chunk_len p.n F)
  have hll := Lib.hid (show ∀ r ∈ chunk p.n F, r.length ≤ 1048576 from fun r hr => by
    obtain ⟨i, hi, rfl⟩ := List.getElem_of_mem hr
    have := chunk_at (n := p.n) F (i := i) (by rw [chunk_len] at hi; exact hi)
    rw [List.getElem?_eq_getElem hi] at this
    injection this with this
    rw [this, List.length_take]; omega)
  have hlen2 := Lib.hid hlen
  have hL1 : out.length ≤ 1000 := by rw [List.length_append] at hlen; omega
  have KK := Lib.hid K
  have Hk := Lib.hid hk
  have O1 := Lib.hid o1
  have O2 := Lib.hid o2
  have O3 := Lib.hid o3
  have hn48 : p.n ≤ 1048576 := by omega
  have hout : out.length ≤ 1048576 := by omega
  clear hL hlen hhd hkn o1 o2 o3 hmod hk
  unfold argsL
  go_enter Try.func132, Try.ntmps132
  by_cases h1 : sum = 1
  · subst h1
    have HE2 := Lib.hid (show im25 p.n 0 k 1 (F.take k) cols = if altB (chunk p.n F) then [chunk p.n F] else [] by rw [HE.out]; rfl)
    cases ha : altB (chunk p.n F)
    · have Ha := Lib.hid ha
      go_wp2_with (go_at_call 54; refine (IsAlternating_i p.Am p.n p.cm (chunk p.n F) _ hcl.out.symm (by omega) hll.out hrd.out).mono ?_; rintro e w1 ⟨rfl, hb1⟩; rw [Ha.out])
      exact bodyPost_ret (results_none rfl _ _ _) rfl ⟨rfl, F, by rw [HE2.out, Ha.out]; simpa using HL.out.bel_ hb1, rfl⟩
    · have Ha := Lib.hid ha
      go_wp2_with (go_at_call 54; refine (IsAlternating_i p.Am p.n p.cm (chunk p.n F) _ hcl.out.symm (by omega) hll.out hrd.out).mono ?_; rintro e w1 ⟨rfl, hb1⟩; rw [Ha.out]; have o11 := O1.out.bel hb1; have co1 := o11.c1; have of1 := o11.frozen 0; have m11 := HL.out.mb.bel hb1; have cm1 := m11.c1; have HL1 := Lib.hid (HL.out.bel_ hb1); have hr1 := Lib.hid (hrd.out.below hb1); have O11 := Lib.hid o11; have M11 := Lib.hid m11; have O21 := Lib.hid ((O2.out.bel famR_II hb1).wide hb1.size); clear hb1 o11 m11)
      have hA0 := World.new_ne w1 ⟨p.go, 0, none⟩ co1
      go_region_law
        (first
          | (go_simp; go_at_call 133; refine (copyRows_any p.Am p.n p.cm (chunk p.n F) _ hcl.out.symm hn48 hll.out (hr1.out.below (bl_drew (Below.refl _ _)))).mono ?_; rintro e w2 ⟨v2, rfl, i2, hb2⟩; obtain ⟨⟨A2, c2, rfl⟩, _⟩ := id i2; have hb2' := bl_trans (bl_drew (Below.refl w1.heap.size w1)) hb2; have I2 := Lib.hid i2; have O12 := Lib.hid (O11.out.bel hb2'); have co2 := O12.out.c1; have co22 := (O12.out.alloc (.cells #[.slice A2 (chunk p.n F).length c2] 76)).c1; have of2 := O12.out.frozen 0; have O22 := Lib.hid (O21.out.bel famR_II hb2'); have HL2 := Lib.hid (HL1.out.bel_ hb2'); have hs2 := hb2'.size; clear i2 hb2 hb2')
          | (refine step_apIn2 (by rfl) (.tmp 27) (.tmp 30) (by rfl) p.lo p.lo2 w1.heap.size _ out _ (chunk p.n F) w1.heap.size w2.heap.size (by rfl) (by rfl) O22.out I2.out (Nat.le_refl _) HL1.out.sz HL1.out.l2 hs2 (Nat.le_refl _) hout ?_; intro A3 L3 c3 w3 hL3 n3 g3 v3; have R3 := HL2.out.app KK.out O12.out O3.out (O22.out.wide hs2) n3 g3 v3; have co3 := R3.1.c1; have of3 := R3.1.frozen 0; have HL3 := Lib.hid R3.2.2; clear n3 g3 v3 R3))
      all_goals
        go_wp2_with fail
        exact bodyPost_ret (results_none rfl _ _ _) rfl ⟨rfl, F, by rw [HE2.out, Ha.out]; exact HL3.out, rfl⟩
  · have h1' : (sum != 1) = true := by simpa using h1
    go_wp2_with fail
    exact bodyPost_ret (results_none rfl _ _ _) rfl ⟨rfl, F, by rw [HE.out, h1']; simpa using HL.out, rfl⟩
set_option maxRecDepth 100000 in
set_option maxHeartbeats 4000000 in
theorem rest25_succ (p : LP) (K : p.Ok) (w0 : World) (f : Nat)
    (ih : ∀ (k : Nat) (sum : Int) (F cols : List Int) (out : List (List (List Int))) (w : World), k + f = p.n * p.n → 0 ≤ sum → sum ≤ 1 → LA p w0 w F cols out → (out ++ im25 p.n f k sum (F.take k) cols).length ≤ 1000 →
      Calls Try.prog 132 (argsL p k sum) w fun e w' => e = .returned (.tuple #[]) ∧ ∃ F', LA p w0 w' F' cols (out ++ im25 p.n f k sum (F.take k) cols) ∧ F'.take k = F.take k)
    (k : Nat) (sum : Int) (F cols : List Int) (out : List (List (List Int))) (w : World) (hk : k + (f + 1) = p.n * p.n) (hs0 : 0 ≤ sum) (hs1 : sum ≤ 1) (hL : LA p w0 w F cols out) (hlen : (out ++ im25 p.n (f + 1) k sum (F.take k) cols).length ≤ 1000) :
    Calls Try.prog 132 (argsL p k sum) w fun e w' => e = .returned (.tuple #[]) ∧ ∃ F', LA p w0 w' F' cols (out ++ im25 p.n (f + 1) k sum (F.take k) cols) ∧ F'.take k = F.take k := by
  have n1 := K.n1
  have n4 := K.n4
  have hnn : p.n * p.n ≤ 16 := Nat.mul_le_mul n4 n4
  obtain ⟨m, hm⟩ : ∃ m, m = k % p.n := ⟨_, rfl⟩
  obtain ⟨q, hq⟩ : ∃ q, q = k / p.n := ⟨_, rfl⟩
  have hmn : m < p.n := by rw [hm]; exact Nat.mod_lt _ n1
  have hqn : q < p.n := by rw [hq]; exact Nat.div_lt_of_lt_mul (by omega)
  have hqm : q * p.n + m = k := by rw [hq, hm, Nat.mul_comm]; exact Nat.div_add_mod k p.n
  have hmi : ((k : Int)).tmod (p.n : Int) = (m : Int) := by rw [Int.tmod_eq_emod_of_nonneg (by omega), hm]; push_cast; rfl
  have hqi : ((k : Int)).tdiv (p.n : Int) = (q : Int) := by rw [Int.tdiv_eq_ediv_of_nonneg (by omega), hq]; push_cast; rfl
  have hw1 : IntKind.i64.wrap ((p.n : Int) * (p.n : Int)) = ((p.n * p.n : Nat) : Int) := by
    rw [show (p.n : Int) * (p.n : Int) = ((p.n * p.n : Nat) : Int) by push_cast; rfl]
    exact IntWalk.i64_in _ (by omega)
  obtain ⟨nn, hN⟩ : ∃ nn, nn = p.n * p.n := ⟨_, rfl⟩
  rw [← hN] at hw1 hnn hk
  have hkk : ((k : Int) == (nn : Int)) = false := by simp; omega
  obtain ⟨b, off, hA⟩ := hL.spine K
  obtain ⟨g, hg⟩ : ∃ g, p.gs[q]? = some g := ⟨_, List.getElem?_eq_getElem (by rw [K.gl]; exact hqn)⟩
  have cn := hL.nb.c1
  have HL := Lib.hid hL
  have hlen2 := Lib.hid hlen
  have KK := Lib.hid K
  have Hk := Lib.hid hk
  have HN := Lib.hid hN
  have Hm := Lib.hid hm
  have Hqm := Lib.hid hqm
  have Hg := Lib.hid hg
  have HA := Lib.hid hA
  have Ih := Lib.hid ih
  have HE := Lib.hid (im25_succ p.n f k sum (F.take k) cols)
  have Hhd := Lib.hid (show hd25 p.n k sum = (decide (0 < k) && decide (m = 0) && sum != 1) by rw [hd25, hm]; congr 2)
  have Hsm := Lib.hid (show sm25 p.n k sum = if (decide (0 < k) && decide (m = 0)) = true then 0 else sum by rw [sm25, hm]; congr 1)
  clear hL hlen hk hN hm hq hqm hg hA ih
  unfold argsL
  go_enter Try.func132, Try.ntmps132
  obtain ⟨bb, hbb⟩ : ∃ bb, bb = (decide (0 < k) && decide (m = 0)) := ⟨_, rfl⟩
  rw [← hbb] at Hhd Hsm
  go_upto_region 0 with fail
  go_cut [17] from 10 to 17 (fun s1 wx => s1 = .bool bb ∧ w = wx)
  case first =>
    by_cases hk0 : 0 < k
    · have q1 : decide ((k : Int) > 0) = true := decide_eq_true (by omega)
      by_cases hm0 : m = 0
      · have q2 : ((m : Int) == 0) = true := by simp [hm0]
        have H0 := Lib.hid hm0
        clear hm0
        go_wp2_with fail
        go_meet
        exact ⟨by rw [hbb, H0.out]; simp [hk0], rfl⟩
      · have q2 : ((m : Int) == 0) = false := by simp [hm0]
        go_wp2_with fail
        go_meet
        exact ⟨by rw [hbb]; simp [hm0], rfl⟩
    · have q1 : decide ((k : Int) > 0) = false := decide_eq_false (by omega)
      go_wp2_with fail
      go_meet
      exact ⟨by rw [hbb]; simp [hk0], rfl⟩
  case rest =>
  obtain ⟨rfl, rfl⟩ := hcut
  clear hbb
  go_upto_if 17 with fail
  go_cut [1] from 17 to 19 (fun s1 wx => s1 = .int .i64 (sm25 p.n k sum) ∧ w = wx ∧ hd25 p.n k sum = false)
  case first =>
    cases bb
    · go_wp2_with fail
      go_meet
      exact ⟨by rw [Hsm.out]; rfl, rfl, by rw [Hhd.out]; rfl⟩
    · by_cases h1 : sum = 1
      · have q3 : (sum != 1) = false := by simp [h1]
        have H1 := Lib.hid h1
        clear h1
        go_wp2_with fail
        go_meet
        exact ⟨by rw [Hsm.out]; rfl, rfl, by rw [Hhd.out, q3]; rfl⟩
      · have q3 : (sum != 1) = true := by simp [h1]
        clear h1
        go_wp2_with fail
        exact bodyPost_ret (results_none rfl _ _ _) rfl ⟨rfl, F, by rw [HE.out, Hhd.out, q3]; simpa using HL.out, rfl⟩
  case rest =>
    obtain ⟨rfl, rfl, hhd⟩ := hcut
    have hs2r : 0 ≤ sm25 p.n k sum ∧ sm25 p.n k sum ≤ 1 := by rw [Hsm.out]; split <;> omega
    have HE2 := Lib.hid (show im25 p.n (f + 1) k sum (F.take k) cols = to25 p.n f k (sm25 p.n k sum) (F.take k) cols 3 by rw [HE.out, hhd, to25_three]; rfl)
    obtain ⟨s, hs⟩ : ∃ s, s = sm25 p.n k sum := ⟨_, rfl⟩
    rw [← hs] at hs2r HE2 ⊢
    clear Hsm HE Hhd hhd hs hs0 hs1
    go_wp2_with fail
    go_loopw [9] (fun x wr => ∃ (j : Nat) (Fj : List Int), j ≤ 3 ∧ x = .int .i64 ((j : Int) - 1) ∧ LA p w0 wr Fj cols (out ++ to25 p.n f k s (F.take k) cols j) ∧ Fj.take k = F.take k) (fun x _ => (2 - intOf x).toNat)
    case atStart => exact ⟨0, F, by omega, by simp, by simpa [to25] using HL.out, rfl⟩
    case round =>
      obtain ⟨j, Fj, hj, rfl, hLj, htk⟩ := hrel
      clear HL cn
      by_cases hlt : j < 3
      · obtain ⟨x, hx⟩ : ∃ x : Int, x = (j : Int) - 1 := ⟨_, rfl⟩
        have hst := to25_succ p.n f k s (F.take k) cols hlt
        have hle := to25_le p.n f k s (F.take k) cols (j + 1) (by omega)
        rw [← hx] at hst ⊢
        have hxr : -1 ≤ x ∧ x ≤ 1 := by omega
        have q4 : decide (x ≤ 1) = true := decide_eq_true hxr.2
        obtain ⟨c, hc, hc0, hc1, cc, cf⟩ := hLj.col hmn
        have cn := hLj.nb.c1
        have cgc := hLj.cb.c1
        have hin : in25 p.n f k s (F.take k) cols x = if inB (s + x) 0 1 && inB (c + x) 0 1 then im25 p.n f (k + 1) (s + x) (F.take k ++ [x]) (cols.set m (c + x)) else [] := by
          unfold in25; rw [← Hm.out, hc]; rfl
        have w1 : IntKind.i64.wrap (s + x) = s + x := IntWalk.i64_in _ (by omega)
        have w2 : IntKind.i64.wrap (c + x) = c + x := IntWalk.i64_in _ (by omega)
        have w3 : IntKind.i64.wrap (c + x - x) = c := by rw [show c + x - x = c by omega]; exact IntWalk.i64_in _ (by omega)
        have hj1 : (x + 1 : Int) = ((j + 1 : Nat) : Int) - 1 := by omega
        have Hj1 := Lib.hid hj1
        have k1 := bq_cell cn
        have k2 := bq_cell cgc
        have k3 := bq_cell cc
        have HLj := Lib.hid hLj
        have Htk := Lib.hid htk
        have Hc := Lib.hid hc
        have Hx := Lib.hid hx
        have Hst := Lib.hid hst
        have Hin := Lib.hid hin
        have Hle := Lib.hid hle
        have hk0 : (0 : Int) ≤ (k : Int) := by omega
        have hm0 : (0 : Int) ≤ (m : Int) := by omega
        have hmn' : (m : Int) < (p.n : Int) := by omega
        have hnz : (p.n : Int) ≠ 0 := by omega
        have hnz2 : ¬ p.n = 0 := by omega
        have hwq : IntKind.i64.wrap (q : Int) = (q : Int) := IntWalk.i64_in _ (by omega)
        have hq0 : (0 : Int) ≤ (q : Int) := by omega
        have hqn' : (q : Int) < (p.n : Int) := by omega
        clear hLj htk hc hx hst hin hle hj1
        cases b1 : inB (s + x) 0 1
        · have Hs2 := Lib.hid (show out ++ to25 p.n f k s (F.take k) cols (j + 1) = out ++ to25 p.n f k s (F.take k) cols j by rw [Hst.out, Hin.out, b1]; simp)
          go_wp2_with fail
          (refine wp_region_quiet_bel (by kernel_rfl) (by kernel_rfl) ?_; (repeat (first | go_big_quiet_step ((go_at_call 89; exact Calls.bel_of_same (within_any _ _ _ _))) | quiet_step ((go_at_call 89; exact Calls.bel_of_same (within_any _ _ _ _))))); refine wpQuiet_nil ?_; intro wq hw0; obtain ⟨⟨_, hbq⟩, hw1⟩ := hw0; subst hw1; try dsimp only)
          go_wp2_with fail
          go_roundw
          case rel => exact ⟨j + 1, Fj, by omega, by rw [Hj1.out], by rw [Hs2.out]; exact HLj.out.bel_ hbq, Htk.out⟩
          case measure => simp [intOf]; omega
        · cases b2 : inB (c + x) 0 1
          · have Hs2 := Lib.hid (show out ++ to25 p.n f k s (F.take k) cols (j + 1) = out ++ to25 p.n f k s (F.take k) cols j by rw [Hst.out, Hin.out, b1, b2]; simp)
            go_wp2_with fail
            (refine wp_region_quiet_bel (by kernel_rfl) (by kernel_rfl) ?_; (repeat (first | go_big_quiet_step ((go_at_call 89; exact Calls.bel_of_same (within_any _ _ _ _))) | quiet_step ((go_at_call 89; exact Calls.bel_of_same (within_any _ _ _ _))))); refine wpQuiet_nil ?_; intro wq hw0; obtain ⟨⟨_, hbq⟩, hw1⟩ := hw0; subst hw1; try dsimp only)
            go_wp2_with fail
            go_roundw
            case rel => exact ⟨j + 1, Fj, by omega, by rw [Hj1.out], by rw [Hs2.out]; exact HLj.out.bel_ hbq, Htk.out⟩
            case measure => simp [intOf]; omega
          · have r1 := inB_true.1 b1
            have r2 := inB_true.1 b2
            have Hs2 := Lib.hid (show out ++ to25 p.n f k s (F.take k) cols (j + 1) = (out ++ to25 p.n f k s (F.take k) cols j) ++ im25 p.n f (k + 1) (s + x) (F.take k ++ [x]) (cols.set m (c + x)) by rw [Hst.out, Hin.out, b1, b2, List.append_assoc]; rfl)
            obtain ⟨oj, hoj⟩ : ∃ oj, oj = out ++ to25 p.n f k s (F.take k) cols j := ⟨_, rfl⟩
            rw [← hoj] at HLj Hs2
            have hkn : k < p.n * p.n := by rw [← HN.out]; have := Hk.out; omega
            have hk16 : k ≤ 16 := by rw [← HN.out] at hkn; omega
            have Hkn := Lib.hid hkn
            clear hkn
            have Hfl := Lib.hid HLj.out.fl
            have Htk2 := Lib.hid (show (Fj.set k x).take (k + 1) = F.take k ++ [x] by
              rw [take_snoc_at (x := x) (by rw [List.getElem?_set, if_pos rfl, if_pos (by rw [Hfl.out]; exact Hkn.out)]), List.take_set_of_le (Nat.le_refl _), Htk.out])
            have Hlen := Lib.hid (show (oj ++ im25 p.n f (k + 1) (s + x) ((Fj.set k x).take (k + 1)) (cols.set m (c + x))).length ≤ 1000 by
              rw [Htk2.out, ← Hs2.out]
              have h1 := hlen2.out
              have h2 := Hle.out
              rw [HE2.out] at h1
              rw [List.length_append] at h1 ⊢
              omega)
            have Hcols := Lib.hid (show (cols.set m (c + x)).set m c = cols by
              rw [List.set_set]
              obtain ⟨h1, h2⟩ := List.getElem?_eq_some_iff.1 Hc.out
              subst h2
              exact List.set_getElem_self h1)
            have Ih2 := Lib.hid (show ∀ w, LA p w0 w (Fj.set k x) (cols.set m (c + x)) oj → Calls Try.prog 132 #[.int .i64 ((k : Int) + 1), .int .i64 (s + x), .pointer (some ⟨p.gn, 0, none⟩), .pointer (some ⟨p.gm, 0, none⟩), .pointer (some ⟨p.go, 0, none⟩), .pointer (some ⟨p.gc, 0, none⟩), .pointer (some ⟨p.gr, 0, none⟩)] w fun e w' => e = .returned (.tuple #[]) ∧ ∃ F', LA p w0 w' F' (cols.set m (c + x)) (oj ++ im25 p.n f (k + 1) (s + x) (F.take k ++ [x]) (cols.set m (c + x))) ∧ F'.take k = F.take k from fun w hw =>
              (Ih.out (k + 1) (s + x) (Fj.set k x) (cols.set m (c + x)) oj w (by rw [← HN.out]; have := Hk.out; omega) r1.1 r1.2 hw Hlen.out).mono fun e w' ⟨he, F', h1, h2⟩ => ⟨he, F', by rw [← Htk2.out]; exact h1, by
                have := congrArg (List.take k) h2
                rw [List.take_take, List.take_take, Nat.min_eq_left (Nat.le_succ k), List.take_set_of_le (Nat.le_refl _), Htk.out] at this
                exact this⟩)
            clear hoj k1 k2 k3
            have k1 := bq_cell cn
            have k2 := bq_cell cgc
            have k3 := bq_cell cc
            go_wp2_with fail
            (refine wp_region_quiet_bel (by kernel_rfl) (by kernel_rfl) ?_; (repeat (first | go_big_quiet_step ((go_at_call 89; exact Calls.bel_of_same (within_any _ _ _ _))) | quiet_step ((go_at_call 89; exact Calls.bel_of_same (within_any _ _ _ _))))); refine wpQuiet_nil ?_; intro wq hw0; obtain ⟨⟨_, hbq⟩, hw1⟩ := hw0; subst hw1; try dsimp only)
            have HLq := Lib.hid (HLj.out.bel_ hbq)
            clear HLj k1 k2 k3 cn cgc cc cf
            rw [b2]
            go_upto_region 10 with fail
            go_cut [9] from 51 to 61 (fun s9 wx => s9 = .int .i64 x ∧ LA p w0 wx (Fj.set k x) cols oj)
            case first =>
              have cn := HLq.out.nb.c1
              have cm := HLq.out.mb.c1
              have cr := HLq.out.row KK.out Hg.out HA.out
              obtain ⟨⟨y, co⟩, fo⟩ := HLq.out.old hqn Hg.out hmn
              have hA := HA.out
              rw [hA] at cm
              have HLn := Lib.hid ((HLq.out.setM KK.out Hg.out hmn hxr).bel_ (bl_drew (Below.refl _ _)))
              rw [Hqm.out] at HLn
              go_still_tail 11, (by kernel_rfl)
              go_wp2_with fail
              go_meet
              exact ⟨rfl, HLn.out⟩
            case rest =>
              obtain ⟨rfl, hL1⟩ := hcut
              clear HLq
              have HL1 := Lib.hid hL1
              clear hL1
              go_upto_region 11 with fail
              go_cut [9] from 62 to 70 (fun s9 wx => s9 = .int .i64 x ∧ LA p w0 wx (Fj.set k x) (cols.set m (c + x)) oj)
              case first =>
                have cn := HL1.out.nb.c1
                have cgc := HL1.out.cb.c1
                obtain ⟨c', hc', _, _, cc, cf⟩ := HL1.out.col hmn
                rw [Hc.out] at hc'
                injection hc' with hc'
                subst hc'
                have HLn := Lib.hid ((HL1.out.setC KK.out m r2).bel_ (bl_drew (Below.refl _ _)))
                go_still_tail 9, (by kernel_rfl)
                go_wp2_with fail
                go_meet
                exact ⟨rfl, HLn.out⟩
              case rest =>
                obtain ⟨rfl, hL2⟩ := hcut
                clear HL1
                have crb := hL2.rb.c1
                unfold slfL at crb
                have HL2 := Lib.hid hL2
                clear hL2
                have hent := enters_ Try.func132 (by kernel_rfl) rfl
                go_wp2_with (go_at_call 132; go_must (refine (Ih2.out _ HL2.out).mono ?_; rintro e w5 ⟨rfl, F5, hL5, ht5⟩; obtain ⟨c', hc', _, _, cc, cf⟩ := hL5.col hmn; rw [List.getElem?_set_self (by obtain ⟨h1, _⟩ := List.getElem?_eq_some_iff.1 Hc.out; exact h1)] at hc'; injection hc' with hc'; subst hc'; have cn := hL5.nb.c1; have cgc := hL5.cb.c1; have HL5 := Lib.hid hL5; have Ht5 := Lib.hid ht5; clear hL5 ht5 crb))
                have HLn := Lib.hid ((HL5.out.setC KK.out m ⟨hc0, hc1⟩).bel_ (bl_drew (Below.refl _ _)))
                rw [Hcols.out] at HLn
                go_still_tail 9, (by kernel_rfl)
                go_wp2_with fail
                go_roundw
                case rel => exact ⟨j + 1, F5, by omega, by rw [Hj1.out], by rw [Hs2.out]; exact HLn.out, Ht5.out⟩
                case measure => simp [intOf]; omega
      · obtain rfl : j = 3 := by omega
        have q4 : decide (((3 : Nat) : Int) - 1 ≤ 1) = false := by decide
        go_wp2_with fail
        go_end0
        exact ⟨rfl, Fj, by rw [HE2.out]; exact hLj, htk⟩
theorem rest25_any (p : LP) (K : p.Ok) (w0 : World) : ∀ (f k : Nat) (sum : Int) (F cols : List Int) (out : List (List (List Int))) (w : World), k + f = p.n * p.n → 0 ≤ sum → sum ≤ 1 → LA p w0 w F cols out → (out ++ im25 p.n f k sum (F.take k) cols).length ≤ 1000 →
      Calls Try.prog 132 (argsL p k sum) w fun e w' => e = .returned (.tuple #[]) ∧ ∃ F', LA p w0 w' F' cols (out ++ im25 p.n f k sum (F.take k) cols) ∧ F'.take k = F.take k := by
  intro f
  induction f with
  | zero => intro k sum F cols out w hk h0 h1 hL hlen; exact rest25_zero p K w0 k sum F cols out w (by omega) ⟨h0, h1⟩ hL hlen
  | succ f ih => intro k sum F cols out w hk h0 h1 hL hlen; exact rest25_succ p K w0 f ih k sum F cols out w hk h0 h1 hL hlen
end Go.Proofs.Ytdcjhfmkkcakhaa

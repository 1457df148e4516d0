/-
  Contracts of StripePattern (both): what each returns, as a function of its argument; nothing that was there is written; no condition.
-/
import Derived.Test.YtdcjhfmkkcakhaaPattern
import Derived.Test.YtdcjhfmkkcakhaaIn
namespace Go.Proofs.Ytdcjhfmkkcakhaa
open Go.ChangeShapes Go.WideShapes Go.ChangeAt Go.RowKit Go.Deep
set_option linter.unusedVariables false

def sv (k : Nat) (s : Nat) : Int := if s % k = 0 then 1 else if s % k = 1 then (k : Int) - 1 else 0
def stripeTo (k n : Nat) : List Int := (List.range n).map fun i => sv k (i % k + i / k)
theorem stripeTo_succ (k n : Nat) : stripeTo k (n + 1) = stripeTo k n ++ [sv k (n % k + n / k)] := by simp [stripeTo, List.range_succ]
theorem stripeTo_len (k n : Nat) : (stripeTo k n).length = n := by simp [stripeTo]
def stripe (k : Int) : List Int := if inB k 2 4 then stripeTo k.toNat (k.toNat * k.toNat) else []
def stripeK (k : Int) : Int := if inB k 2 4 then k else 0
theorem stripe_len (k : Int) : (stripe k).length ≤ 16 := by
  unfold stripe
  split
  · rename_i h
    have := inB_true.1 h
    rw [stripeTo_len]
    obtain ⟨n, hn⟩ : ∃ n, n = k.toNat := ⟨_, rfl⟩
    rw [← hn]
    have : n = 2 ∨ n = 3 ∨ n = 4 := by omega
    rcases this with rfl | rfl | rfl <;> decide
  · simp
theorem sv_rng {k : Nat} (s : Nat) (h : 2 ≤ k ∧ k ≤ 4) : 0 ≤ sv k s ∧ sv k s ≤ 3 := by
  unfold sv
  split
  · omega
  · split <;> omega
theorem row_at {k y x : Nat} (hk : 0 < k) (hx : x < k) : (y * k + x) % k + (y * k + x) / k = x + y := by
  rw [Nat.mul_comm, Nat.mul_add_mod, Nat.mod_eq_of_lt hx, Nat.mul_add_div hk, Nat.div_eq_of_lt hx]; omega
theorem res_pat {fn : Func} {s g : Nat} (hres : fn.results = #[.cell s 26]) {tmps : Array Value} {w : World} {a b c d : Value}
    (h1 : tmps.getD s undef = .pointer (some ⟨g, 0, none⟩)) (B : Blk w g 26 [a, b, c, d]) : (results fn tmps).run Try.prog w = .ok (.agg #[a, b, c, d]) w := by
  have c1 := B.c4
  simp only [Array.getD_eq_getD_getElem?] at h1
  simp [results, hres, h1, go_sem, c1]
theorem wpList_asI {wr : World} {ops : Array Oper} {rest : List Oper} {o : Oper} {a : Act} {Q : Exit → Act → World → Prop} (hgd : o.guard = none) (s x : Operand) (ho : o.op = .call { callee := .builtin .append, args := #[s, x], argTypes := #[24, 24] })
    (B : Nat) (v : Value) (l : List Int) (c : Int) (hs : a.eval s = v) (hx : a.eval x = .slice (some ⟨wr.heap.size, 0, none⟩) 1 1) (hown : OwI B wr v l) (hB : B ≤ wr.heap.size) (hn : l.length ≤ 1048576) (hc : I64 c)
    (h : ∀ A' L c' w1, OwI B w1 (.slice A' L c') (l ++ [c]) → (∀ w, Below B w wr → Below B w w1) → wpList Try.prog ops Q rest (a.put o.dst (.slice A' L c')) w1) :
    wpList Try.prog ops Q (o :: rest) a (wr.alloc (.cells #[.int .i64 c] 3)) :=
  wpList_atI hgd s x ho B v l c hs hx hown hB hn hc (fun v' w1 h1 h2 _ _ _ => by obtain ⟨⟨A', c', rfl⟩, _⟩ := id h1; exact h A' _ c' w1 h1 h2)
set_option maxRecDepth 100000 in
set_option maxHeartbeats 4000000 in
theorem StripePattern_i (k : Int) (w : World) :
    Calls Try.prog 17 #[.int .i64 k] w fun e w' => ∃ v, e = .returned (.agg #[.int .i64 (stripeK k), .int .i64 (stripeK k), .int .i64 (stripeK k), v]) ∧ OwI w.heap.size w' v (stripe k) ∧ Below w.heap.size w w' := by
  have R := Blk.new w 26 [.int .i64 0, .int .i64 0, .int .i64 0, .slice none 0 0]
  have Rc := R.c4
  have Rf0 := R.frozen 0
  have Rf1 := R.frozen 1
  have Rf2 := R.frozen 2
  have Rf3 := R.frozen 3
  cases h : inB k 2 4
  · go_enter Try.func17, Try.ntmps17
    go_wp2_with (go_at_call 89; refine (within_any _ _ _ _).mono ?_; rintro e wn ⟨rfl, rfl⟩)
    exact bodyPost_ret (res_pat rfl rfl R) rfl ⟨.slice none 0 0, by simp [stripeK, h], by rw [show stripe k = [] by simp [stripe, h]]; exact OwI.nil_ _ _, by go_grown⟩
  · have i2 := inB_true.1 h
    obtain ⟨n, rfl⟩ : ∃ n : Nat, k = n := ⟨k.toNat, by omega⟩
    have n1 : ((n : Int) == 0) = false := by simp; omega
    have hst := Lib.hid (show stripe (n : Int) = stripeTo n (n * n) by rw [stripe, h, if_pos rfl]; simp)
    have hsk := Lib.hid (show stripeK (n : Int) = n by rw [stripeK, h, if_pos rfl])
    have P := Blk.new2 w (.cells #[.int .i64 0, .int .i64 0, .int .i64 0, .slice none 0 0] 26) 26 [.int .i64 n, .int .i64 n, .int .i64 n, .slice none 0 0]
    have R2 := R.alloc (.cells #[.int .i64 n, .int .i64 n, .int .i64 n, .slice none 0 0] 26)
    have hB := bl_alloc (bl_alloc (Below.refl w.heap.size w) (.cells #[.int .i64 0, .int .i64 0, .int .i64 0, .slice none 0 0] 26)) (.cells #[.int .i64 n, .int .i64 n, .int .i64 n, .slice none 0 0] 26)
    go_enter Try.func17, Try.ntmps17
    go_wp2_with (go_at_call 89; refine (within_any _ _ _ _).mono ?_; rintro e wn ⟨rfl, rfl⟩)
    go_loopw [16] (fun q wr => ∃ y : Nat, ∃ v, y ≤ n ∧ q = .int .i64 y ∧ OwI (w.heap.size + 2) wr v (stripeTo n (y * n)) ∧ Blk wr (w.heap.size + 1) 26 [.int .i64 n, .int .i64 n, .int .i64 n, v] ∧ Blk wr w.heap.size 26 [.int .i64 0, .int .i64 0, .int .i64 0, .slice none 0 0] ∧ Below w.heap.size w wr) (fun q _ => n - (intOf q).toNat)
    case atStart => exact ⟨0, .slice none 0 0, by omega, rfl, by simpa [stripeTo] using OwI.nil_ _ _, P, R2, hB⟩
    case round =>
      obtain ⟨y, v, hy, rfl, own, P', R', hB'⟩ := hrel
      clear P R2 hB R Rc Rf0 Rf1 Rf2 Rf3
      by_cases hlt : y < n
      · have own0 := own
        have P0 := P'
        have R0 := R'
        have hB0 := hB'
        clear own P' R' hB'
        go_wp2
        go_loopw [20] (fun q wr => ∃ x : Nat, ∃ v, x ≤ n ∧ q = .int .i64 x ∧ OwI (w.heap.size + 2) wr v (stripeTo n (y * n + x)) ∧ Blk wr (w.heap.size + 1) 26 [.int .i64 n, .int .i64 n, .int .i64 n, v] ∧ Blk wr w.heap.size 26 [.int .i64 0, .int .i64 0, .int .i64 0, .slice none 0 0] ∧ Below w.heap.size w wr) (fun q _ => n - (intOf q).toNat)
        case atStart => exact ⟨0, v, by omega, rfl, own0, P0, R0, hB0⟩
        case round =>
          obtain ⟨x, v, hx, rfl, own, P, R, hB⟩ := hrel
          clear own0 P0 R0 hB0
          by_cases hxt : x < n
          · have hlen1 : (stripeTo n (y * n + x)).length ≤ 1048576 := by
              rw [stripeTo_len]
              have := Nat.mul_le_mul (show y ≤ 3 by omega) (show n ≤ 4 by omega)
              omega
            have Pc := P.c4
            have hPl := P.lt
            have hs := Lib.hid (stripeTo_succ n (y * n + x))
            have hra := Lib.hid (row_at (k := n) (y := y) (x := x) (by omega) hxt)
            have hsr := sv_rng (k := n) (x + y) (by omega)
            have Ho := Lib.hid own
            have em : ((x : Int) + y) % (n : Int) = (((x + y) % n : Nat) : Int) := by first | (rw [Int.natCast_emod, Int.natCast_add]) | simp
            have hml := Nat.mod_lt (x + y) (show 0 < n by omega)
            obtain ⟨r, hr⟩ : ∃ r, r = (x + y) % n := ⟨_, rfl⟩
            have hsv := Lib.hid (show sv n (x + y) = if r = 0 then 1 else if r = 1 then (n : Int) - 1 else 0 by rw [hr]; rfl)
            rw [← hr] at em hml
            clear own hr
            have key : ∀ z : Int, sv n (x + y) = z → I64 z := fun z hz => by rw [← hz]; exact ⟨by omega, by omega⟩
            by_cases h0 : r = 0
            · subst h0
              have ez : sv n (x + y) = 1 := by rw [hsv.out]; rfl
              have ez' := Lib.hid ez
              have gz := key _ ez
              clear ez key hsr
              go_wp2_with (at_builtin; refine wpList_asI rfl (.tmp 35) (.tmp 37) rfl (w.heap.size + 2) _ (stripeTo n (y * n + x)) _ rfl rfl Ho.out hPl hlen1 gz ?_; intro A' L c' w1 ho1 hb1; have P1 := P.below (hb1 _ (Below.refl _ _)) (by omega); have R1 := R.below (hb1 _ (Below.refl _ _)) (by omega); have hB1 := hB.trans ((hb1 _ (Below.refl _ _)).mono (by omega)); have P1f := P1.frozen 3; have P1c := P1.c4; have P2 := Lib.hid (P1.set_ 3 (.slice A' L c')); have R2 := Lib.hid (R1.farN (w.heap.size + 1) 3 (by omega) (.slice A' L c')); have ho2 := Lib.hid (ho1.set' (p := ⟨w.heap.size + 1, 3, none⟩) (Nat.lt_succ_self _) (.slice A' L c')); have hB2 := Lib.hid (hB1.setCell (p := ⟨w.heap.size + 1, 3, none⟩) (Nat.le_succ _) (.slice A' L c')))
              go_roundw
              case rel => exact ⟨x + 1, .slice A' L c', by omega, by go_num, by rw [← Nat.add_assoc, hs.out, hra.out, ez'.out]; exact ho2.out, P2.out, R2.out, hB2.out⟩
              case measure => simp [intOf]; omega
            · by_cases h1 : r = 1
              · subst h1
                have ez : sv n (x + y) = (n : Int) - 1 := by rw [hsv.out]; rfl
                have ez' := Lib.hid ez
                have gz := key _ ez
                clear ez key hsr
                go_wp2_with (at_builtin; refine wpList_asI rfl (.tmp 35) (.tmp 37) rfl (w.heap.size + 2) _ (stripeTo n (y * n + x)) _ rfl rfl Ho.out hPl hlen1 gz ?_; intro A' L c' w1 ho1 hb1; have P1 := P.below (hb1 _ (Below.refl _ _)) (by omega); have R1 := R.below (hb1 _ (Below.refl _ _)) (by omega); have hB1 := hB.trans ((hb1 _ (Below.refl _ _)).mono (by omega)); have P1f := P1.frozen 3; have P1c := P1.c4; have P2 := Lib.hid (P1.set_ 3 (.slice A' L c')); have R2 := Lib.hid (R1.farN (w.heap.size + 1) 3 (by omega) (.slice A' L c')); have ho2 := Lib.hid (ho1.set' (p := ⟨w.heap.size + 1, 3, none⟩) (Nat.lt_succ_self _) (.slice A' L c')); have hB2 := Lib.hid (hB1.setCell (p := ⟨w.heap.size + 1, 3, none⟩) (Nat.le_succ _) (.slice A' L c')))
                go_roundw
                case rel => exact ⟨x + 1, .slice A' L c', by omega, by go_num, by rw [← Nat.add_assoc, hs.out, hra.out, ez'.out]; exact ho2.out, P2.out, R2.out, hB2.out⟩
                case measure => simp [intOf]; omega
              · have ez : sv n (x + y) = 0 := by rw [hsv.out, if_neg h0, if_neg h1]
                have ez' := Lib.hid ez
                have gz := key _ ez
                clear ez key hsr
                go_wp2_with (at_builtin; refine wpList_asI rfl (.tmp 35) (.tmp 37) rfl (w.heap.size + 2) _ (stripeTo n (y * n + x)) _ rfl rfl Ho.out hPl hlen1 gz ?_; intro A' L c' w1 ho1 hb1; have P1 := P.below (hb1 _ (Below.refl _ _)) (by omega); have R1 := R.below (hb1 _ (Below.refl _ _)) (by omega); have hB1 := hB.trans ((hb1 _ (Below.refl _ _)).mono (by omega)); have P1f := P1.frozen 3; have P1c := P1.c4; have P2 := Lib.hid (P1.set_ 3 (.slice A' L c')); have R2 := Lib.hid (R1.farN (w.heap.size + 1) 3 (by omega) (.slice A' L c')); have ho2 := Lib.hid (ho1.set' (p := ⟨w.heap.size + 1, 3, none⟩) (Nat.lt_succ_self _) (.slice A' L c')); have hB2 := Lib.hid (hB1.setCell (p := ⟨w.heap.size + 1, 3, none⟩) (Nat.le_succ _) (.slice A' L c')))
                go_roundw
                case rel => exact ⟨x + 1, .slice A' L c', by omega, by go_num, by rw [← Nat.add_assoc, hs.out, hra.out, ez'.out]; exact ho2.out, P2.out, R2.out, hB2.out⟩
                case measure => simp [intOf]; omega
          · have hxn : x = n := by omega
            subst hxn
            have Ho := Lib.hid own
            clear own
            go_wp2
            go_roundw
            case rel => exact ⟨y + 1, v, by omega, by go_num, by rw [Nat.succ_mul]; exact Ho.out, P, R, hB⟩
            case measure => simp [intOf]; omega
      · have hyn : y = n := by omega
        subst hyn
        obtain ⟨⟨A1, c1, rfl⟩, _⟩ := id own
        have hP := Lib.hid P'
        have Ho := Lib.hid own
        have Pc := P'.c4
        have Rc := R'.c4
        have Rf0 := R'.frozen 0
        have Rf1 := R'.frozen 1
        have Rf2 := R'.frozen 2
        have Rf3 := R'.frozen 3
        have R4 := Lib.hid ((((R'.set_ 0 (.int .i64 y)).set_ 1 (.int .i64 y)).set_ 2 (.int .i64 y)).set_ 3 (.slice A1 (stripeTo y (y * y)).length c1))
        clear own P' R'
        go_wp2
        refine bodyPost_ret (res_pat rfl rfl R4.out) rfl ⟨_, by rw [hsk.out], ?_, ?_⟩
        · rw [hst.out]
          exact OwI.mono (((((Ho.out.set' (p := ⟨w.heap.size, 0, none⟩) (by show w.heap.size < w.heap.size + 2; omega) _).set' (p := ⟨w.heap.size, 1, none⟩) (by show w.heap.size < w.heap.size + 2; omega) _).set' (p := ⟨w.heap.size, 2, none⟩) (by show w.heap.size < w.heap.size + 2; omega) _).set' (p := ⟨w.heap.size, 3, none⟩) (by show w.heap.size < w.heap.size + 2; omega) _)) (by omega)
        · exact (((hB'.setCell (p := ⟨w.heap.size, 0, none⟩) (Nat.le_refl _) _).setCell (p := ⟨w.heap.size, 1, none⟩) (Nat.le_refl _) _).setCell (p := ⟨w.heap.size, 2, none⟩) (Nat.le_refl _) _).setCell (p := ⟨w.heap.size, 3, none⟩) (Nat.le_refl _) _
theorem tdiv_nat (a b : Nat) : (a : Int).tdiv b = ((a / b : Nat) : Int) := rfl
set_option maxRecDepth 100000 in
set_option maxHeartbeats 4000000 in
theorem StripePattern_s (k : Int) (w : World) :
    Calls Try.prog 173 #[.int .i64 k] w fun e w' => ∃ v, e = .returned (.agg #[.int .i64 (stripeK k), .int .i64 (stripeK k), .int .i64 (stripeK k), v]) ∧ OwI w.heap.size w' v (stripe k) ∧ Below w.heap.size w w' := by
  have R := (Blk.new w 26 [.int .i64 0, .int .i64 0, .int .i64 0, .slice none 0 0]).alloc (.cells #[.int .i64 0, .int .i64 0, .int .i64 0, .slice none 0 0] 26)
  have P := Blk.new2 w (.cells #[.int .i64 0, .int .i64 0, .int .i64 0, .slice none 0 0] 26) 26 [.int .i64 0, .int .i64 0, .int .i64 0, .slice none 0 0]
  have hB := bl_alloc (bl_alloc (Below.refl w.heap.size w) (.cells #[.int .i64 0, .int .i64 0, .int .i64 0, .slice none 0 0] 26)) (.cells #[.int .i64 0, .int .i64 0, .int .i64 0, .slice none 0 0] 26)
  have Rc := R.c4
  have Pc := P.c4
  have Rf0 := R.frozen 0
  have Rf1 := R.frozen 1
  have Rf2 := R.frozen 2
  have Rf3 := R.frozen 3
  have Pf0 := P.frozen 0
  have Pf1 := P.frozen 1
  have Pf2 := P.frozen 2
  have Pf3 := P.frozen 3
  cases h : inB k 2 4
  · go_enter Try.func173, Try.ntmps173
    go_wp2_with (go_at_call 128; refine (l01In_any _ _ _ _).mono ?_; rintro e wn ⟨rfl, rfl⟩)
    have e1 : stripeK k = 0 := by simp [stripeK, h]
    have e2 : stripe k = [] := by simp [stripe, h]
    refine bodyPost_ret (res_pat (g := w.heap.size) rfl rfl R) rfl ⟨.slice none 0 0, ?_, ?_, ?_⟩
    · rw [e1]
    · rw [e2]; exact OwI.nil_ _ _
    · exact hB
  · have i2 := inB_true.1 h
    obtain ⟨n, rfl⟩ : ∃ n : Nat, k = n := ⟨k.toNat, by omega⟩
    have n1 : ((n : Int) == 0) = false := by simp; omega
    have hst := Lib.hid (show stripe (n : Int) = stripeTo n (n * n) by rw [stripe, h, if_pos rfl]; simp)
    have hsk := Lib.hid (show stripeK (n : Int) = n by rw [stripeK, h, if_pos rfl])
    have P2 := Blk.new2 w (.cells #[.int .i64 0, .int .i64 0, .int .i64 0, .slice none 0 0] 26) 26 [.int .i64 n, .int .i64 n, .int .i64 n, .slice none 0 0]
    have R2 := (Blk.new w 26 [.int .i64 0, .int .i64 0, .int .i64 0, .slice none 0 0]).alloc (.cells #[.int .i64 n, .int .i64 n, .int .i64 n, .slice none 0 0] 26)
    have hB2 := bl_alloc (bl_alloc (Below.refl w.heap.size w) (.cells #[.int .i64 0, .int .i64 0, .int .i64 0, .slice none 0 0] 26)) (.cells #[.int .i64 n, .int .i64 n, .int .i64 n, .slice none 0 0] 26)
    have hP2 := Lib.hid P2
    have hR2 := Lib.hid R2
    have hB2' := Lib.hid hB2
    clear P2 R2 hB2
    have hnn : n * n ≤ 16 := Nat.mul_le_mul (show n ≤ 4 by omega) (show n ≤ 4 by omega)
    have hmul : (n : Int) * n = ((n * n : Nat) : Int) := by simp
    obtain ⟨N, hN⟩ : ∃ N, N = n * n := ⟨_, rfl⟩
    rw [← hN] at hmul hnn hst
    have hN' := Lib.hid hN
    clear hN
    go_enter Try.func173, Try.ntmps173
    go_wp2_with (go_at_call 128; refine (l01In_any _ _ _ _).mono ?_; rintro e wn ⟨rfl, rfl⟩)
    go_loopw [4] (fun q wr => ∃ i : Nat, ∃ v, i ≤ N ∧ q = .int .i64 i ∧ OwI (w.heap.size + 2) wr v (stripeTo n i) ∧ Blk wr (w.heap.size + 1) 26 [.int .i64 n, .int .i64 n, .int .i64 n, v] ∧ Blk wr w.heap.size 26 [.int .i64 0, .int .i64 0, .int .i64 0, .slice none 0 0] ∧ Below w.heap.size w wr) (fun q _ => N - (intOf q).toNat)
    case atStart => exact ⟨0, .slice none 0 0, by omega, rfl, by simpa [stripeTo] using OwI.nil_ _ _, hP2.out, hR2.out, hB2'.out⟩
    case round =>
      obtain ⟨i, v, hi, rfl, own, P', R', hB'⟩ := hrel
      clear P R hB Rc Pc Rf0 Rf1 Rf2 Rf3 Pf0 Pf1 Pf2 Pf3 hP2 hR2 hB2'
      have P := P'
      have R := R'
      have hB := hB'
      clear P' R' hB'
      by_cases hlt : i < N
      · have hlen1 : (stripeTo n i).length ≤ 1048576 := by rw [stripeTo_len]; omega
        have Pc := P.c4
        have hPl := P.lt
        have hs := Lib.hid (stripeTo_succ n i)
        have hsr := sv_rng (k := n) (i % n + i / n) (by omega)
        have Ho := Lib.hid own
        obtain ⟨p, hp⟩ : ∃ p, p = i % n := ⟨_, rfl⟩
        obtain ⟨q, hq⟩ : ∃ q, q = i / n := ⟨_, rfl⟩
        have hq16 : q ≤ 16 := by rw [hq]; exact Nat.le_trans (Nat.div_le_self _ _) (by omega)
        have hpn : p < n := by rw [hp]; exact Nat.mod_lt _ (by omega)
        have e1 : (i : Int) % (n : Int) = (p : Int) := by rw [hp]; first | (rw [Int.natCast_emod]) | simp
        have e2 : (i : Int) / (n : Int) = (q : Int) := by rw [hq]; first | (rw [Int.natCast_ediv]) | simp
        have em : ((p : Int) + q) % (n : Int) = (((p + q) % n : Nat) : Int) := by first | (rw [Int.natCast_emod, Int.natCast_add]) | simp
        rw [← hp, ← hq] at hsr
        have hs2 := Lib.hid (show stripeTo n (i + 1) = stripeTo n i ++ [sv n (p + q)] by rw [hp, hq]; exact hs.out)
        have hml := Nat.mod_lt (p + q) (show 0 < n by omega)
        obtain ⟨r, hr⟩ : ∃ r, r = (p + q) % n := ⟨_, rfl⟩
        have hsv := Lib.hid (show sv n (p + q) = if r = 0 then 1 else if r = 1 then (n : Int) - 1 else 0 by rw [hr]; rfl)
        rw [← hr] at em hml
        clear own hr hp hq
        have key : ∀ z : Int, sv n (p + q) = z → I64 z := fun z hz => by rw [← hz]; exact ⟨by omega, by omega⟩
        by_cases h0 : r = 0
        · subst h0
          have ez : sv n (p + q) = 1 := by rw [hsv.out]; rfl
          have ez' := Lib.hid ez
          have gz := key _ ez
          clear ez key hsr
          go_wp2_with fail
          (refine wp_region_quiet_bel (by kernel_rfl) (by kernel_rfl) ?_; (repeat (first | go_big_quiet_step (fail) | quiet_step (fail))); refine wpQuiet_nil ?_; intro wq hw0; obtain ⟨⟨_, hbq⟩, hw1⟩ := hw0; subst hw1; try dsimp only)
          replace P := P.bel hbq
          replace R := R.bel hbq
          replace Pc := P.c4
          replace Ho := Lib.hid (Ho.out.bel hbq)
          replace hB := bl_trans hB hbq
          replace hPl := P.lt
          go_wp2_with (at_builtin; refine wpList_asI rfl (.tmp 38) (.tmp 40) rfl (w.heap.size + 2) _ (stripeTo n i) _ rfl rfl Ho.out hPl hlen1 gz ?_; intro A' L c' w1 ho1 hb1; have P1 := P.below (hb1 _ (Below.refl _ _)) (by omega); have R1 := R.below (hb1 _ (Below.refl _ _)) (by omega); have hB1 := hB.trans ((hb1 _ (Below.refl _ _)).mono (by omega)); have P1f := P1.frozen 3; have P1c := P1.c4; have P2 := Lib.hid (P1.set_ 3 (.slice A' L c')); have R2 := Lib.hid (R1.farN (w.heap.size + 1) 3 (by omega) (.slice A' L c')); have ho2 := Lib.hid (ho1.set' (p := ⟨w.heap.size + 1, 3, none⟩) (Nat.lt_succ_self _) (.slice A' L c')); have hB2 := Lib.hid (hB1.setCell (p := ⟨w.heap.size + 1, 3, none⟩) (Nat.le_succ _) (.slice A' L c')))
          go_roundw
          case rel => exact ⟨i + 1, .slice A' L c', by omega, by go_num, by rw [hs2.out, ez'.out]; exact ho2.out, P2.out, R2.out, hB2.out⟩
          case measure => simp [intOf]; omega
        · by_cases h1 : r = 1
          · subst h1
            have ez : sv n (p + q) = (n : Int) - 1 := by rw [hsv.out]; rfl
            have ez' := Lib.hid ez
            have gz := key _ ez
            clear ez key hsr
            go_wp2_with fail
            (refine wp_region_quiet_bel (by kernel_rfl) (by kernel_rfl) ?_; (repeat (first | go_big_quiet_step (fail) | quiet_step (fail))); refine wpQuiet_nil ?_; intro wq hw0; obtain ⟨⟨_, hbq⟩, hw1⟩ := hw0; subst hw1; try dsimp only)
            replace P := P.bel hbq
            replace R := R.bel hbq
            replace Pc := P.c4
            replace Ho := Lib.hid (Ho.out.bel hbq)
            replace hB := bl_trans hB hbq
            replace hPl := P.lt
            go_wp2_with (at_builtin; refine wpList_asI rfl (.tmp 38) (.tmp 40) rfl (w.heap.size + 2) _ (stripeTo n i) _ rfl rfl Ho.out hPl hlen1 gz ?_; intro A' L c' w1 ho1 hb1; have P1 := P.below (hb1 _ (Below.refl _ _)) (by omega); have R1 := R.below (hb1 _ (Below.refl _ _)) (by omega); have hB1 := hB.trans ((hb1 _ (Below.refl _ _)).mono (by omega)); have P1f := P1.frozen 3; have P1c := P1.c4; have P2 := Lib.hid (P1.set_ 3 (.slice A' L c')); have R2 := Lib.hid (R1.farN (w.heap.size + 1) 3 (by omega) (.slice A' L c')); have ho2 := Lib.hid (ho1.set' (p := ⟨w.heap.size + 1, 3, none⟩) (Nat.lt_succ_self _) (.slice A' L c')); have hB2 := Lib.hid (hB1.setCell (p := ⟨w.heap.size + 1, 3, none⟩) (Nat.le_succ _) (.slice A' L c')))
            go_roundw
            case rel => exact ⟨i + 1, .slice A' L c', by omega, by go_num, by rw [hs2.out, ez'.out]; exact ho2.out, P2.out, R2.out, hB2.out⟩
            case measure => simp [intOf]; omega
          · have ez : sv n (p + q) = 0 := by rw [hsv.out, if_neg h0, if_neg h1]
            have ez' := Lib.hid ez
            have gz := key _ ez
            clear ez key hsr
            go_wp2_with fail
            (refine wp_region_quiet_bel (by kernel_rfl) (by kernel_rfl) ?_; (repeat (first | go_big_quiet_step (fail) | quiet_step (fail))); refine wpQuiet_nil ?_; intro wq hw0; obtain ⟨⟨_, hbq⟩, hw1⟩ := hw0; subst hw1; try dsimp only)
            replace P := P.bel hbq
            replace R := R.bel hbq
            replace Pc := P.c4
            replace Ho := Lib.hid (Ho.out.bel hbq)
            replace hB := bl_trans hB hbq
            replace hPl := P.lt
            go_wp2_with (at_builtin; refine wpList_asI rfl (.tmp 38) (.tmp 40) rfl (w.heap.size + 2) _ (stripeTo n i) _ rfl rfl Ho.out hPl hlen1 gz ?_; intro A' L c' w1 ho1 hb1; have P1 := P.below (hb1 _ (Below.refl _ _)) (by omega); have R1 := R.below (hb1 _ (Below.refl _ _)) (by omega); have hB1 := hB.trans ((hb1 _ (Below.refl _ _)).mono (by omega)); have P1f := P1.frozen 3; have P1c := P1.c4; have P2 := Lib.hid (P1.set_ 3 (.slice A' L c')); have R2 := Lib.hid (R1.farN (w.heap.size + 1) 3 (by omega) (.slice A' L c')); have ho2 := Lib.hid (ho1.set' (p := ⟨w.heap.size + 1, 3, none⟩) (Nat.lt_succ_self _) (.slice A' L c')); have hB2 := Lib.hid (hB1.setCell (p := ⟨w.heap.size + 1, 3, none⟩) (Nat.le_succ _) (.slice A' L c')))
            go_roundw
            case rel => exact ⟨i + 1, .slice A' L c', by omega, by go_num, by rw [hs2.out, ez'.out]; exact ho2.out, P2.out, R2.out, hB2.out⟩
            case measure => simp [intOf]; omega
      · have hyn : i = N := by omega
        subst hyn
        obtain ⟨⟨A1, c1, rfl⟩, _⟩ := id own
        have Ho := Lib.hid own
        have Pc := P.c4
        have Rc := R.c4
        have Rf0 := R.frozen 0
        have Rf1 := R.frozen 1
        have Rf2 := R.frozen 2
        have Rf3 := R.frozen 3
        have R4 := Lib.hid ((((R.set_ 0 (.int .i64 n)).set_ 1 (.int .i64 n)).set_ 2 (.int .i64 n)).set_ 3 (.slice A1 (stripeTo n i).length c1))
        clear own
        go_wp2
        refine bodyPost_ret (res_pat rfl rfl R4.out) rfl ⟨_, by rw [hsk.out], ?_, ?_⟩
        · rw [hst.out]
          exact OwI.mono (((((Ho.out.set' (p := ⟨w.heap.size, 0, none⟩) (by show w.heap.size < w.heap.size + 2; omega) _).set' (p := ⟨w.heap.size, 1, none⟩) (by show w.heap.size < w.heap.size + 2; omega) _).set' (p := ⟨w.heap.size, 2, none⟩) (by show w.heap.size < w.heap.size + 2; omega) _).set' (p := ⟨w.heap.size, 3, none⟩) (by show w.heap.size < w.heap.size + 2; omega) _)) (by omega)
        · exact (((hB.setCell (p := ⟨w.heap.size, 0, none⟩) (Nat.le_refl _) _).setCell (p := ⟨w.heap.size, 1, none⟩) (Nat.le_refl _) _).setCell (p := ⟨w.heap.size, 2, none⟩) (Nat.le_refl _) _).setCell (p := ⟨w.heap.size, 3, none⟩) (Nat.le_refl _) _
end Go.Proofs.Ytdcjhfmkkcakhaa

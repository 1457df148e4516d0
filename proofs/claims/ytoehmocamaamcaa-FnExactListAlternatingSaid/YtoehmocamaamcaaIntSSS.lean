/-
  Lists of matrices of integers: how they read, which a call made itself; the laws' own comparison, mark and look at the mark; at most 1048576 elements.
-/
import Derived.Test.YtoehmocamaamcaaIntSS
namespace Go.Proofs.Ytoehmocamaamcaa
open Go.ChangeShapes Go.WideShapes Go.ChangeAt Go.RowKit Go.Deep
set_option linter.unusedVariables false

theorem InII.at2 {lo hi : Nat} {w : World} {A : Option Addr} {n c : Nat} {ll : List (List Int)} (h : InII lo hi w (.slice A n c) ll) : n = ll.length := InS.len h
theorem famR_II : FamR InII where
  loc h hs := InS.loc famR_I h hs
  one h := by obtain ⟨⟨A, c, rfl⟩, _⟩ := h; rfl
def RdIII := RdS RdII List.length
def InIII := InS 70 InII
theorem RdIII.at_ {w : World} {A : Option Addr} {ll : List (List (List Int))} (h : RdIII w A ll) {k : Nat} (hk : k < ll.length) :
    ∃ b off l A' c, A = some ⟨b, off, none⟩ ∧ b < w.heap.size ∧ ll[k]? = some l ∧ ll.drop k = l :: ll.drop (k + 1) ∧ RdII w A' l ∧ w.cell? ⟨b, off + k, none⟩ = some (.slice A' l.length c) := RdS.at_ h hk
theorem RdIII.below {w w' : World} {A : Option Addr} {ll : List (List (List Int))} (h : RdIII w A ll) (hb : Below w.heap.size w w') : RdIII w' A ll := RdS.below (fun h => h.below hb) h hb
theorem InIII.bel {lo hi : Nat} {w w' : World} {v : Value} {ll : List (List (List Int))} (h : InIII lo hi w v ll) (hb : Below w.heap.size w w') : InIII lo hi w' v ll := InS.bel famR_II h hb
theorem InIII.rd {lo hi : Nat} {w : World} {A : Option Addr} {n c : Nat} {ll : List (List (List Int))} (h : InIII lo hi w (.slice A n c) ll) : RdIII w A ll :=
  InS.rd (fun h => by obtain ⟨A, c, rfl⟩ := h.1; exact ⟨A, c, rfl, h.rd⟩) h
theorem InIII.form {lo hi : Nat} {w : World} {v : Value} {ll : List (List (List Int))} (h : InIII lo hi w v ll) : ∃ A c, v = .slice A ll.length c := h.1
def tot3 (m : List (List (List Int))) : Nat := (m.map tot).sum
theorem tot3_cons (l : List (List Int)) (ll : List (List (List Int))) : tot3 (l :: ll) = tot l + tot3 ll := by simp [tot3]
theorem tot3_take {ll : List (List (List Int))} {k : Nat} {l : List (List Int)} (h : ll[k]? = some l) : tot3 (ll.take (k + 1)) = tot3 (ll.take k) + tot l := by
  rw [List.take_add_one, h, tot3, tot3, List.map_append, List.sum_append]
  simp
theorem tot3_take_le (ll : List (List (List Int))) (k : Nat) : tot3 (ll.take k) ≤ tot3 ll := by
  induction ll generalizing k with
  | nil => simp
  | cons l ll ih =>
    cases k with
    | zero => simp [tot3]
    | succ k =>
      have := ih k
      rw [List.take_succ_cons, tot3_cons, tot3_cons]
      omega
set_option maxHeartbeats 1000000 in
theorem eqIntSSS_any (A B : Option Addr) (n m c d : Nat) (l k : List (List (List Int))) (w : World) (hn : n = l.length) (hm : m = k.length) (hl : l.length ≤ 1048576) (hll : ∀ x ∈ l, x.length ≤ 1048576 ∧ ∀ r ∈ x, r.length ≤ 1048576) (hr : RdIII w A l) (hs : RdIII w B k) :
    Calls Try.prog 13 #[.slice A n c, .slice B m d] w fun e w' => e = .returned (.bool (decide (l = k))) ∧ Below w.heap.size w w' := by
  have HN := Lib.hid hn
  have HM := Lib.hid hm
  have Hr := Lib.hid hr
  have Hs := Lib.hid hs
  have Hll := Lib.hid hll
  have hn1 : n ≤ 1048576 := by omega
  by_cases hlen : n = m
  · subst hlen
    clear hn hm hr hs hll hl
    go_enter Try.func13, Try.ntmps13
    go_wp2
    go_loopw [5] (fun i wr => ∃ q : Nat, q ≤ n ∧ i = .int .i64 q ∧ Hid (decide (l = k) = decide (l.drop q = k.drop q)) ∧ Below w.heap.size w wr) (fun i _ => n - (intOf i).toNat)
    case atStart => exact ⟨0, by omega, rfl, Lib.hid (by simp), Below.refl _ _⟩
    case round =>
      obtain ⟨q, hq, rfl, hall, hb⟩ := hrel
      by_cases hlt : q < n
      · obtain ⟨b1, o1, x, A1, c1, hA, hbl, hx, hd, hrx, hc⟩ := (Hr.out.below hb).at_ (k := q) (by have := HN.out; omega)
        obtain ⟨b2, o2, y, B1, d1, hB, hbl2, hy, hd2, hry, hc2⟩ := (Hs.out.below hb).at_ (k := q) (by have := HM.out; omega)
        subst hA
        subst hB
        have hxx := Hll.out x (List.mem_of_getElem? hx)
        have hxl := hxx.1
        have hxm := Lib.hid hxx.2
        clear hxx
        have hall2 := Lib.hid (show decide (l = k) = decide (x = y ∧ l.drop (q + 1) = k.drop (q + 1)) by rw [hall.out, hd, hd2]; simp)
        have q1 := bq_cell hc
        have q2 := bq_cell hc2
        have Hx := Lib.hid hrx
        have Hy := Lib.hid hry
        have hb0 := Lib.hid hb
        clear hd hd2 hx hy hc hc2 hrx hry hall hb
        by_cases he : x = y
        · have Hdec := Lib.hid (show decide (x = y) = true by simp [he])
          have He := Lib.hid he
          clear he
          go_wp2_with fail
          (refine wp_region_quiet_bel (by kernel_rfl) (by kernel_rfl) ?_; (repeat (first | go_big_quiet_step ((go_at_call 50; exact Calls.bel_w (fun W hW => (eqIntSS_any A1 B1 x.length y.length c1 d1 x y W rfl rfl hxl hxm.out (Hx.out.below hW) (Hy.out.below hW)).mono (fun e w' h => ⟨h.1.trans (ret_bool Hdec.out), h.2⟩)))) | quiet_step ((go_at_call 50; exact Calls.bel_w (fun W hW => (eqIntSS_any A1 B1 x.length y.length c1 d1 x y W rfl rfl hxl hxm.out (Hx.out.below hW) (Hy.out.below hW)).mono (fun e w' h => ⟨h.1.trans (ret_bool Hdec.out), h.2⟩)))))); refine wpQuiet_nil ?_; intro wq hw0; obtain ⟨⟨_, hbq⟩, hw1⟩ := hw0; subst hw1; try dsimp only)
          go_wp2
          go_roundw
          case rel => exact ⟨q + 1, by omega, by go_num, Lib.hid (by rw [hall2.out]; simp [He.out]), bl_trans hb0.out hbq⟩
          case measure => simp [intOf]; omega
        · have Hdec := Lib.hid (show decide (x = y) = false by simp [he])
          have He := Lib.hid he
          clear he
          go_wp2_with fail
          (refine wp_region_quiet_bel (by kernel_rfl) (by kernel_rfl) ?_; (repeat (first | go_big_quiet_step ((go_at_call 50; exact Calls.bel_w (fun W hW => (eqIntSS_any A1 B1 x.length y.length c1 d1 x y W rfl rfl hxl hxm.out (Hx.out.below hW) (Hy.out.below hW)).mono (fun e w' h => ⟨h.1.trans (ret_bool Hdec.out), h.2⟩)))) | quiet_step ((go_at_call 50; exact Calls.bel_w (fun W hW => (eqIntSS_any A1 B1 x.length y.length c1 d1 x y W rfl rfl hxl hxm.out (Hx.out.below hW) (Hy.out.below hW)).mono (fun e w' h => ⟨h.1.trans (ret_bool Hdec.out), h.2⟩)))))); refine wpQuiet_nil ?_; intro wq hw0; obtain ⟨⟨_, hbq⟩, hw1⟩ := hw0; subst hw1; try dsimp only)
          go_wp2
          go_ret
          exact ⟨ret_bool (by rw [hall2.out]; simp [He.out]), bl_trans hb0.out hbq⟩
      · obtain rfl : q = n := by omega
        have h1 : l.drop q = [] := List.drop_eq_nil_of_le (by have := HN.out; omega)
        have h2 : k.drop q = [] := List.drop_eq_nil_of_le (by have := HM.out; omega)
        have hall2 := Lib.hid (show decide (l = k) = true by rw [hall.out, h1, h2]; simp)
        clear h1 h2 hall
        go_wp2
        go_ret
        exact ⟨ret_bool (by rw [hall2.out]), hb⟩
  · have Hne := Lib.hid (show decide (l = k) = false by simp; intro e; subst e; omega)
    clear hn hm hr hs hll hl
    go_enter Try.func13, Try.ntmps13
    go_wp2
    go_ret
    exact ⟨ret_bool (by rw [Hne.out]), Below.refl _ _⟩
def mks3 : Int → List (List (List Int)) → List (List (List Int))
  | _, [] => []
  | k, l :: ll => mksS k l :: mks3 (k + tot l) ll
theorem mks3_len (ll : List (List (List Int))) : ∀ k, (mks3 k ll).length = ll.length := by
  induction ll with
  | nil => intro k; rfl
  | cons l ll ih => intro k; simp [mks3, ih]
theorem mks3_at (ll : List (List (List Int))) : ∀ (k : Int) (j : Nat) (l : List (List Int)), ll[j]? = some l → (mks3 k ll)[j]? = some (mksS (k + tot3 (ll.take j)) l) := by
  induction ll with
  | nil => intro k j l h; simp at h
  | cons x ll ih =>
    intro k j l h
    cases j with
    | zero => simp at h; subst h; simp [mks3, tot3]
    | succ j =>
      simp at h
      have := ih (k + tot x) j l h
      simp only [mks3, List.getElem?_cons_succ, this, List.take_succ_cons, tot3_cons]
      congr 2
      omega
theorem InIII.at_ {lo hi : Nat} {w : World} {A : Option Addr} {n c : Nat} {ll : List (List (List Int))} (h : InIII lo hi w (.slice A n c) ll) {k : Nat} {l : List (List Int)} (hl : ll[k]? = some l) :
    ∃ b off A' c' a' b', A = some ⟨b, off, none⟩ ∧ b < w.heap.size ∧ w.cell? ⟨b, off + k, none⟩ = some (.slice A' l.length c') ∧ InII a' b' w (.slice A' l.length c') l ∧ lo ≤ a' ∧ b' ≤ hi ∧ ¬ (a' ≤ b ∧ b < b') ∧
      ∀ (w' : World) (l' : List (List Int)), Btw a' b' w w' → InII a' b' w' (.slice A' l.length c') l' → InIII lo hi w' (.slice A n c) (ll.set k l') := by
  have hk := (List.getElem?_eq_some_iff.1 hl).1
  obtain rfl := InS.len h
  obtain ⟨b, off, l1, A1, c1, hA, hb, hl1, _, _, hc⟩ := RdIII.at_ h.rd hk
  obtain ⟨f1, f2, vs, f3, f4⟩ := h
  obtain ⟨u, a', b', hu, hI, ha, hb', ho, hset⟩ := f4.set_ famR_II hl
  obtain ⟨A', c', rfl⟩ := hI.1
  subst hA
  obtain ⟨b2, off2, e1, _, e2⟩ := (Rd.of_own f3).2 (by omega)
  injection e1 with e1
  injection e1 with e1 e3
  subst e1
  subst e3
  have hc2 := e2 k _ hu
  have hown : (Value.slice (some ⟨b, off, none⟩) ll.length c).ownBlock = some b := rfl
  refine ⟨b, off, A', c', a', b', rfl, hb, hc2, hI, ha, hb', fun hx => by have := ho b hown; omega, fun w' l' hB hI' => ⟨by obtain ⟨A2, c2, e⟩ := f1; exact ⟨A2, c2, by simpa using e⟩, f2, vs, ?_, hset w' l' hB hI'⟩⟩
  rw [List.length_set]
  exact ownsRow_loc f3 (fun q hq hlt => hB.block q hlt (by have := ho q hq; omega))
set_option maxHeartbeats 1000000 in
theorem markIntSSS_in (lo hi : Nat) (A : Option Addr) (n c : Nat) (ll : List (List (List Int))) (k : Int) (w : World) (hn : n ≤ 1048576) (h1 : 0 ≤ k) (h2 : k + tot3 ll ≤ 4194304) (hll : ∀ x ∈ ll, x.length ≤ 1048576 ∧ ∀ r ∈ x, r.length ≤ 1048576) (h : InIII lo hi w (.slice A n c) ll) :
    Calls Try.prog 14 #[.slice A n c, .int .i64 k] w fun e w' => e = .returned (.int .i64 (k + tot3 ll)) ∧ InIII lo hi w' (.slice A n c) (mks3 k ll) ∧ Btw lo hi w w' := by
  have HN := Lib.hid (InS.len h)
  have Hh := Lib.hid h
  have Hll := Lib.hid hll
  have hml := Lib.hid (mks3_len ll k)
  clear h hll
  go_enter Try.func14, Try.ntmps14
  go_wp2
  go_loopw [1, 5] (fun q i wr => ∃ j : Nat, ∃ x : Int, j ≤ n ∧ i = .int .i64 j ∧ q = .int .i64 x ∧ Hid (x = k + tot3 (ll.take j)) ∧ InIII lo hi wr (.slice A n c) ((mks3 k ll).take j ++ ll.drop j) ∧ Btw lo hi w wr) (fun _ i _ => n - (intOf i).toNat)
  case atStart => exact ⟨0, k, by omega, rfl, rfl, Lib.hid (by simp [tot3]), by simpa using Hh.out, Btw.refl _ _ _⟩
  case round =>
    obtain ⟨j, x, hj, rfl, rfl, Hx, hI, hB⟩ := hrel
    by_cases hlt : j < n
    · have hjl : j < ll.length := by have := HN.out; omega
      have hl := List.getElem?_eq_getElem hjl
      obtain ⟨l, hle⟩ : ∃ l, l = ll[j] := ⟨_, rfl⟩
      rw [← hle] at hl
      have hmix : ((mks3 k ll).take j ++ ll.drop j)[j]? = some l := by rw [mix_at (hml.out) (by rw [hml.out]; exact hjl)]; exact hl
      obtain ⟨b, off, A', c', a', b', rfl, hbs, hc, hIl, ha, hb', hnb, hset⟩ := hI.at_ hmix
      have hxx := Hll.out l (List.mem_of_getElem? hl)
      have hxl := hxx.1
      have hxm := Lib.hid hxx.2
      clear hxx
      have htk := Lib.hid (tot3_take hl)
      have hmk := Lib.hid (mix_set (hml.out) (mks3_at ll k j l hl))
      have hle2 := tot3_take_le ll (j + 1)
      have hx0 : 0 ≤ x := by have := Hx.out; omega
      have hx1 : x + tot l ≤ 4194304 := by have := Hx.out; have := htk.out; omega
      have Hset := Lib.hid hset
      have HIl := Lib.hid hIl
      have HB := Lib.hid hB
      clear hset hIl hI hmix hl hle hB hle2
      go_wp2_with (go_at_call 51; refine (markIntSS_in a' b' A' l.length c' l x _ hxl hx0 hx1 hxm.out HIl.out).mono ?_; rintro e w1 ⟨rfl, m1, hb1⟩; go_must ( have hs1 := Lib.hid (Hset.out w1 _ hb1 m1); have HB1 := Lib.hid (HB.out.trans (hb1.mono ha hb')); clear m1 hb1))
      go_roundw
      case rel => exact ⟨j + 1, x + tot l, by omega, by go_num, by go_num, Lib.hid (by have := Hx.out; have := htk.out; omega), by have := hs1.out; rw [Hx.out, hmk.out] at this; exact this, HB1.out⟩
      case measure => simp [intOf]; omega
    · obtain rfl : j = n := by omega
      have HI := Lib.hid hI
      clear hI
      go_wp2
      go_ret
      refine ⟨ret_int (by have := Hx.out; rw [List.take_of_length_le (by have := HN.out; omega)] at this; exact this), ?_, hB⟩
      have := HI.out
      rwa [List.take_of_length_le (by rw [hml.out]; have := HN.out; omega), List.drop_eq_nil_of_le (by have := HN.out; omega), List.append_nil] at this
set_option maxHeartbeats 1000000 in
theorem heldIntSSS_in (A : Option Addr) (n c : Nat) (ll : List (List (List Int))) (k : Int) (w : World) (hnl : n = ll.length) (hn : n ≤ 1048576) (h1 : 0 ≤ k) (h2 : k + tot3 ll ≤ 4194304) (hll : ∀ x ∈ ll, x.length ≤ 1048576 ∧ ∀ r ∈ x, r.length ≤ 1048576) (hr : RdIII w A (mks3 k ll)) :
    Calls Try.prog 15 #[.slice A n c, .int .i64 k] w fun e w' => e = .returned (.int .i64 (k + tot3 ll)) ∧ w = w' := by
  have HN := Lib.hid hnl
  have Hr := Lib.hid hr
  have Hll := Lib.hid hll
  have hml := Lib.hid (mks3_len ll k)
  clear hnl hr hll
  go_enter Try.func15, Try.ntmps15
  go_wp2
  go_loop [1, 5] (fun q i => ∃ j : Nat, ∃ x : Int, j ≤ n ∧ i = .int .i64 j ∧ q = .int .i64 x ∧ Hid (x = k + tot3 (ll.take j))) (fun _ i => n - (intOf i).toNat)
  case atStart => exact ⟨0, k, by omega, rfl, rfl, Lib.hid (by simp [tot3])⟩
  case round =>
    obtain ⟨j, x, hj, rfl, rfl, Hx⟩ := hrel
    by_cases hlt : j < n
    · have hjl : j < ll.length := by have := HN.out; omega
      have hl := List.getElem?_eq_getElem hjl
      obtain ⟨l, hle⟩ : ∃ l, l = ll[j] := ⟨_, rfl⟩
      rw [← hle] at hl
      obtain ⟨b, off, m, A', c', rfl, hbs, hm, _, hrm, hc⟩ := Hr.out.at_ (k := j) (by rw [hml.out]; exact hjl)
      rw [mks3_at ll k j l hl] at hm
      injection hm with hm
      subst hm
      rw [mksS_len] at hc
      have hxx := Hll.out l (List.mem_of_getElem? hl)
      have hxl := hxx.1
      have hxm := Lib.hid hxx.2
      clear hxx
      have htk := Lib.hid (tot3_take hl)
      have hle2 := tot3_take_le ll (j + 1)
      have hx0 : 0 ≤ x := by have := Hx.out; omega
      have hx1 : x + tot l ≤ 4194304 := by have := Hx.out; have := htk.out; omega
      have Hm := Lib.hid (show RdII w A' (mksS x l) by rw [Hx.out]; exact hrm)
      clear hl hle hle2 hrm
      go_wp2_with (go_at_call 52; refine (heldIntSS_in A' l.length c' l x _ rfl hxl hx0 hx1 hxm.out Hm.out).mono ?_; rintro e wn ⟨rfl, rfl⟩)
      go_round
      case rel => exact ⟨j + 1, x + tot l, by omega, by go_num, by go_num, Lib.hid (by have := Hx.out; have := htk.out; omega)⟩
      case measure => simp [intOf]; omega
    · obtain rfl : j = n := by omega
      go_wp2
      go_ret
      exact ⟨ret_int (by have := Hx.out; rw [List.take_of_length_le (by have := HN.out; omega)] at this; exact this), rfl⟩
end Go.Proofs.Ytoehmocamaamcaa

/-
  Contracts of the functions that search for the first colors (firstColors, l31Search, ColorWith): what each returns, as a function of its arguments; nothing that was there is written; at most 1048576 dominoes.
-/
import Derived.Test.YtdcjhfmkkcakhaaColors
import Derived.Test.YtdcjhfmkkcakhaaApp
import Derived.Deep.DeepMust
import Derived.Laws.EntriesVeiled
namespace Go.Proofs.Ytdcjhfmkkcakhaa
open Go.ChangeShapes Go.WideShapes Go.ChangeAt Go.RowKit Go.Deep
set_option linter.unusedVariables false

def tryC (g : Int → Option (List Int)) : Nat → Int → Option (List Int)
  | 0, _ => none
  | r + 1, x => match g x with
    | some o => some o
    | none => tryC g r (x + 1)
def srch (l : List Dm) (n : Nat) : Nat → List Int → Option (List Int)
  | 0, head => some head
  | f + 1, head => tryC (fun x => if mh l head head.length x then srch l n f (head ++ [x]) else none) n 0
def stepC (l : List Dm) (n f : Nat) (head : List Int) (x : Int) : Option (List Int) := if mh l head head.length x then srch l n f (head ++ [x]) else none
theorem srch_succ (l : List Dm) (n f : Nat) (head : List Int) : srch l n (f + 1) head = tryC (stepC l n f head) n 0 := rfl
theorem tryC_some {g : Int → Option (List Int)} {r : Nat} {x : Int} {o : List Int} (h : g x = some o) : tryC g (r + 1) x = some o := by rw [tryC, h]
theorem tryC_none {g : Int → Option (List Int)} {r : Nat} {x : Int} (h : g x = none) : tryC g (r + 1) x = tryC g r (x + 1) := by rw [tryC, h]
theorem tryC_mem {g : Int → Option (List Int)} {o : List Int} : ∀ (r : Nat) (x : Int), tryC g r x = some o → ∃ k : Nat, k < r ∧ g (x + k) = some o := by
  intro r
  induction r with
  | zero => intro x h; simp [tryC] at h
  | succ r ih =>
    intro x h
    cases hg : g x with
    | none =>
      rw [tryC_none hg] at h
      obtain ⟨k, hk, e⟩ := ih _ h
      exact ⟨k + 1, by omega, by rw [show x + ((k + 1 : Nat) : Int) = x + 1 + (k : Int) by omega]; exact e⟩
    | some o' =>
      rw [tryC_some hg] at h
      injection h with h
      subst h
      exact ⟨0, by omega, by simpa using hg⟩
theorem srch_len {l : List Dm} {n : Nat} : ∀ (f : Nat) (head : List Int) (o : List Int), srch l n f head = some o → o.length = head.length + f ∧ o.take head.length = head ∧ ((∀ x ∈ head, I64 x) → n ≤ 6 → ∀ x ∈ o, I64 x) := by
  intro f
  induction f with
  | zero => intro head o h; injection h with h; subst h; exact ⟨rfl, List.take_length, fun h _ => h⟩
  | succ f ih =>
    intro head o h
    rw [srch_succ] at h
    obtain ⟨k, hk, e⟩ := tryC_mem _ _ h
    unfold stepC at e
    split at e
    · obtain ⟨h1, h2, h3⟩ := ih _ _ e
      rw [List.length_append, List.length_singleton] at h1 h2
      refine ⟨by omega, ?_, fun hh hn => h3 (fun x hx => ?_) hn⟩
      · have := congrArg (List.take head.length) h2
        rw [List.take_take, List.take_append_of_le_length (Nat.le_refl _), List.take_length] at this
        rwa [Nat.min_eq_left (by omega)] at this
      · rcases List.mem_append.1 hx with hx | hx
        · exact hh x hx
        · simp at hx; subst hx; unfold I64; omega
    · cases e
theorem take_cAt {o head : List Int} {i : Nat} (h : o.take i = head) {k : Nat} (hk : k < i) : cAt o k = cAt head k := by
  rw [← h]; unfold cAt; rw [List.getElem?_take, if_pos hk]
theorem mh_take {l : List Dm} {o head : List Int} {i : Nat} (h : o.take i = head) (x : Int) : mh l o i x = mh l head i x := mh_congr fun k hk => take_cAt h hk
theorem set_take {o head : List Int} {i : Nat} (h : o.take i = head) (hi : i < o.length) (x : Int) : (o.set i x).take (i + 1) = head ++ [x] := by
  have e : (o.set i x)[i]? = some x := by rw [List.getElem?_set, if_pos rfl, if_pos hi]
  rw [take_snoc_at e, List.take_set_of_le (Nat.le_refl _), h]
theorem take_less {o head : List Int} {i : Nat} {x : Int} (h : o.take (i + 1) = head ++ [x]) (hi : i = head.length) : o.take i = head := by
  have := congrArg (List.take i) h
  rw [List.take_take, Nat.min_eq_left (by omega), hi, List.take_append_of_le_length (Nat.le_refl _), List.take_length] at this
  rw [hi]; exact this
def slfF (Z : Nat) : Value := .func (.func 196) #[] #[.pointer (some ⟨Z, 0, none⟩), .pointer (some ⟨Z + 1, 0, none⟩), .pointer (some ⟨Z + 3, 0, none⟩), .pointer (some ⟨Z + 4, 0, none⟩)]
/-- the variables of firstColors, as its closure finds them -/
structure FC (Z N c n : Nat) (A : Option Addr) (o : List Int) (w0 w : World) : Prop where
  bel : Below Z w0 w
  lst : Blk w Z 46 [.slice A N c]
  num : Blk w (Z + 1) 3 [.int .i64 (n : Int)]
  row : Blk w (Z + 2) 3 (o.map cI)
  out : Blk w (Z + 3) 24 [.slice (some ⟨Z + 2, 0, none⟩) N N]
  rest : Blk w (Z + 4) 179 [slfF Z]
  len : o.length = N
  i64 : ∀ x ∈ o, I64 x
theorem FC.bel_ {Z N c n : Nat} {A : Option Addr} {o : List Int} {w0 w w1 : World} (h : FC Z N c n A o w0 w) (hb : Below w.heap.size w w1) : FC Z N c n A o w0 w1 :=
  ⟨h.bel.trans (hb.mono (Nat.le_of_lt h.lst.lt)), h.lst.bel hb, h.num.bel hb, h.row.bel hb, h.out.bel hb, h.rest.bel hb, h.len, h.i64⟩
theorem FC.set_ {Z N c n : Nat} {A : Option Addr} {o : List Int} {w0 w : World} (h : FC Z N c n A o w0 w) (i : Nat) {x : Int} (hx : I64 x) : FC Z N c n A (o.set i x) w0 (w.setCell ⟨Z + 2, i, none⟩ (.int .i64 x)) :=
  ⟨h.bel.setCell (p := ⟨Z + 2, i, none⟩) (by show Z ≤ Z + 2; omega) _, h.lst.farN _ _ (by omega) _, h.num.farN _ _ (by omega) _, h.row.setI i x, h.out.farN _ _ (by omega) _, h.rest.farN _ _ (by omega) _, by rw [List.length_set]; exact h.len, fun y hy => by
    rcases List.mem_or_eq_of_mem_set hy with hy | rfl
    · exact h.i64 y hy
    · exact hx⟩
theorem mayHave_2 (A : Option Addr) (N c : Nat) (l : List Dm) (B : Option Addr) (M d : Nat) (cs : List Int) (i : Nat) (col : Int) (w : World) (hN : N = l.length) (hM : cs.length = M) (hl : N ≤ 1048576) (hcs : M ≤ 1048576) (hr : RdD w A l) (hc : N ≤ c) (hs : RdI w B cs) (hi : i < N) (hics : i ≤ M) :
    Calls Try.prog 140 #[.slice A N c, .slice B M d, .int .i64 i, .int .i64 col] w fun e w' => e = .returned (.bool (mh l cs i col)) ∧ Below w.heap.size w w' := by
  subst hN; subst hM; exact mayHave_any A c l B d cs i col w hl hcs hr hc hs hi hics
set_option maxRecDepth 100000 in
set_option maxHeartbeats 1000000 in
theorem firstColors1_any (w0 : World) (l : List Dm) (A : Option Addr) (N c : Nat) (hN : N = l.length) (hN18 : N ≤ 18) (hc : N ≤ c) (hr0 : RdD w0 A l) (n : Nat) (hn : n ≤ 6) (Z : Nat) (hZ : Z = w0.heap.size) :
    ∀ (f i : Nat) (head o : List Int) (w : World), i = head.length → N = i + f → o.take i = head → FC Z N c n A o w0 w →
    Calls Try.prog 196 #[.int .i64 (i : Int), .pointer (some ⟨Z, 0, none⟩), .pointer (some ⟨Z + 1, 0, none⟩), .pointer (some ⟨Z + 3, 0, none⟩), .pointer (some ⟨Z + 4, 0, none⟩)] w fun e w' => e = .returned (.bool (srch l n f head).isSome) ∧ ∃ o', FC Z N c n A o' w0 w' ∧ o'.take i = head ∧ ∀ s, srch l n f head = some s → o' = s := by
  have HN := Lib.hid hN
  have Hr0 := Lib.hid hr0
  have HZ := Lib.hid hZ
  clear hN hr0 hZ
  intro f
  induction f with
  | zero =>
    intro i head o w hi hf ht E
    have e0 : ((i : Int) == (N : Int)) = true := by simp; omega
    have cl := E.lst.c1
    have HE := Lib.hid E
    have Ht := Lib.hid ht
    have Hf := Lib.hid hf
    clear E ht hi hf
    go_enter Try.func196, Try.ntmps196
    go_wp2_with fail
    go_ret
    refine ⟨rfl, o, HE.out, Ht.out, fun s hs => ?_⟩
    injection hs with hs
    rw [← hs, ← Ht.out, List.take_of_length_le (by rw [HE.out.len, Hf.out]; omega)]
  | succ f ih =>
    intro i head o w hi hf ht E
    have e0 : ((i : Int) == (N : Int)) = false := by simp; omega
    have hiN : i < N := by omega
    have cl := E.lst.c1
    have cn := E.num.c1
    have HE := Lib.hid E
    have Ht := Lib.hid ht
    have Hi := Lib.hid hi
    have Hf := Lib.hid hf
    have Ih := Lib.hid ih
    clear E ht hi hf ih
    go_enter Try.func196, Try.ntmps196
    go_wp2_with fail
    go_loopw [13] (fun q wr => ∃ x : Nat, ∃ o : List Int, x ≤ n ∧ q = .int .i64 x ∧ Hid (FC Z N c n A o w0 wr) ∧ Hid (o.take i = head) ∧ Hid (srch l n (f + 1) head = tryC (stepC l n f head) (n - x) x)) (fun q _ => n - (intOf q).toNat)
    case atStart => exact ⟨0, o, by omega, rfl, HE, Ht, Lib.hid rfl⟩
    case round =>
      obtain ⟨x, o2, hx, rfl, HE2, Ht2, HS⟩ := hrel
      clear HE Ht cl cn
      by_cases hlt : x < n
      · have E2 := HE2.out
        have cl := E2.lst.c1
        have co := E2.out.c1
        have cr := E2.rest.c1
        unfold slfF at cr
        have hrd := E2.row.rdI E2.i64
        have hlen := E2.len
        have hmh : mh l o2 i x = mh l head head.length x := by rw [mh_take Ht2.out, Hi.out]
        have Hmh := Lib.hid hmh
        have Hrd := Lib.hid hrd
        have Hln := Lib.hid hlen
        have hwx : n - x = (n - (x + 1)) + 1 := by omega
        have Hwx := Lib.hid hwx
        have HL := Lib.hid (show RdD wr A l from Hr0.out.below (by rw [← HZ.out]; exact E2.bel))
        clear E2 hmh hrd hlen hwx
        cases t1 : mh l head head.length x
        · have Hnx := Lib.hid (show srch l n (f + 1) head = tryC (stepC l n f head) (n - (x + 1)) ((x : Int) + 1) by
            rw [HS.out, Hwx.out, tryC_none (by unfold stepC; rw [t1]; rfl)])
          have T1 := Lib.hid t1
          clear t1
          go_wp2_with (go_at_call 140; refine (mayHave_2 A N c l (some ⟨Z + 2, 0, none⟩) N N o2 i x _ HN.out Hln.out (by omega) (by omega) HL.out hc Hrd.out hiN (by omega)).mono ?_; rintro e wn ⟨rfl, hbn⟩; rw [Hmh.out, T1.out]; have HE3 := Lib.hid (HE2.out.bel_ hbn); clear hbn)
          go_roundw
          case rel => exact ⟨x + 1, o2, by omega, by go_num, HE3, Ht2, Hnx⟩
          case measure => simp [intOf]; omega
        · have T1 := Lib.hid t1
          have hxI : I64 (x : Int) := ⟨by omega, by omega⟩
          have HxI := Lib.hid hxI
          cases t2 : srch l n f (head ++ [(x : Int)]) with
          | none =>
            have Hnx := Lib.hid (show srch l n (f + 1) head = tryC (stepC l n f head) (n - (x + 1)) ((x : Int) + 1) by
              rw [HS.out, Hwx.out, tryC_none (by unfold stepC; rw [t1, if_pos rfl, t2])])
            have T2 := Lib.hid t2
            clear t1 t2 hxI
            go_wp2_with (first | (go_at_call 140; refine (mayHave_2 A N c l (some ⟨Z + 2, 0, none⟩) N N o2 i x _ HN.out Hln.out (by omega) (by omega) HL.out hc Hrd.out hiN (by omega)).mono ?_; rintro e wn ⟨rfl, hbn⟩; rw [Hmh.out, T1.out]; have E3 := HE2.out.bel_ hbn; have co3 := E3.out.c1; have cv3 := E3.row.getI (List.getElem?_eq_getElem (by rw [Hln.out]; exact hiN)); have cf3 := E3.row.frozen i; have E4 := E3.set_ i HxI.out; have cr4 := E4.rest.c1; unfold slfF at cr4; have HE4 := Lib.hid E4; clear hbn E3 E4) | (go_at_call 196; refine (Ih.out (i + 1) (head ++ [(x : Int)]) (o2.set i x) _ (by rw [List.length_append, ← Hi.out]; rfl) (by have := Hf.out; omega) (set_take Ht2.out (by rw [Hln.out]; exact hiN) x) HE4.out).mono ?_; rintro e w5 ⟨rfl, o5, E5, ht5, hs5⟩; rw [T2.out]; have HE5 := Lib.hid E5; have Ht5 := Lib.hid (take_less ht5 Hi.out); clear E5 ht5 hs5))
            go_roundw
            case rel => exact ⟨x + 1, o5, by omega, by go_num, HE5, Ht5, Hnx⟩
            case measure => simp [intOf]; omega
          | some so =>
            have Hnx := Lib.hid (show srch l n (f + 1) head = some so by
              rw [HS.out, Hwx.out, tryC_some (by unfold stepC; rw [t1, if_pos rfl, t2])])
            have T2 := Lib.hid t2
            clear t1 t2 hxI
            go_wp2_with (first | (go_at_call 140; refine (mayHave_2 A N c l (some ⟨Z + 2, 0, none⟩) N N o2 i x _ HN.out Hln.out (by omega) (by omega) HL.out hc Hrd.out hiN (by omega)).mono ?_; rintro e wn ⟨rfl, hbn⟩; rw [Hmh.out, T1.out]; have E3 := HE2.out.bel_ hbn; have co3 := E3.out.c1; have cv3 := E3.row.getI (List.getElem?_eq_getElem (by rw [Hln.out]; exact hiN)); have cf3 := E3.row.frozen i; have E4 := E3.set_ i HxI.out; have cr4 := E4.rest.c1; unfold slfF at cr4; have HE4 := Lib.hid E4; clear hbn E3 E4) | (go_at_call 196; refine (Ih.out (i + 1) (head ++ [(x : Int)]) (o2.set i x) _ (by rw [List.length_append, ← Hi.out]; rfl) (by have := Hf.out; omega) (set_take Ht2.out (by rw [Hln.out]; exact hiN) x) HE4.out).mono ?_; rintro e w5 ⟨rfl, o5, E5, ht5, hs5⟩; rw [T2.out]; have HE5 := Lib.hid E5; have Ht5 := Lib.hid (take_less ht5 Hi.out); have Hs5 := Lib.hid (hs5 so T2.out); clear E5 ht5 hs5))
            go_ret
            refine ⟨by rw [Hnx.out]; rfl, o5, HE5.out, Ht5.out, fun s hs => ?_⟩
            rw [Hnx.out] at hs
            injection hs with hs
            rw [← hs]; exact Hs5.out
      · have HS2 := Lib.hid (show srch l n (f + 1) head = none by rw [HS.out, show n - x = 0 by omega]; rfl)
        go_wp2_with fail
        go_ret
        refine ⟨by rw [HS2.out]; rfl, o2, HE2.out, Ht2.out, fun s hs => ?_⟩
        rw [HS2.out] at hs
        cases hs
set_option maxRecDepth 100000 in
set_option maxHeartbeats 1000000 in
theorem firstColors_any (A : Option Addr) (N c : Nat) (l : List Dm) (n : Nat) (w : World) (hN : N = l.length) (hN18 : N ≤ 18) (hc : N ≤ c) (hr : RdD w A l) (hn : n ≤ 6) :
    Calls Try.prog 142 #[.slice A N c, .int .i64 (n : Int)] w fun e w' => ∃ v, e = .returned (.tuple #[v, .bool (srch l n N []).isSome]) ∧ (∃ o', OwI w.heap.size w' v o' ∧ ∀ s, srch l n N [] = some s → o' = s) ∧ Below w.heap.size w w' := by
  have H := Lib.hid (fun w' => firstColors1_any w l A N c hN hN18 hc hr n hn w.heap.size rfl N 0 [] (List.replicate N 0) w' rfl (by omega) (by simp))
  have hmk := run_make_row' (P := Try.prog) 24 3 (.int .i64 0) 8 Try.underlying24 info_int rfl .i64 .i64 N (by omega) (by omega)
  have e5 := Blk.new ((((w.alloc (.cells #[.slice A N c] 46)).alloc (.cells #[.int .i64 (n : Int)] 3)).alloc (.cells (madeCells #[.int .i64 0] N) 3)).alloc (.cells #[.slice (some ⟨w.heap.size + 2, 0, none⟩) N N] 24)) 179 [slfF w.heap.size]
  have e4 := Blk.new (((w.alloc (.cells #[.slice A N c] 46)).alloc (.cells #[.int .i64 (n : Int)] 3)).alloc (.cells (madeCells #[.int .i64 0] N) 3)) 24 [.slice (some ⟨w.heap.size + 2, 0, none⟩) N N]
  have e3 := Blk.new ((w.alloc (.cells #[.slice A N c] 46)).alloc (.cells #[.int .i64 (n : Int)] 3)) 3 ((List.replicate N 0).map cI)
  have e2 := Blk.new2 w (.cells #[.slice A N c] 46) 3 [.int .i64 (n : Int)]
  have e1 := Blk.new w 46 [.slice A N c]
  have em : ((List.replicate N 0).map cI).toArray = madeCells #[.int .i64 0] N := by rw [made_list, List.map_replicate]; rfl
  rw [em] at e3
  simp only [World.size_alloc] at e5 e4 e3
  have E : FC w.heap.size N c n A (List.replicate N 0) w (((((w.alloc (.cells #[.slice A N c] 46)).alloc (.cells #[.int .i64 (n : Int)] 3)).alloc (.cells (madeCells #[.int .i64 0] N) 3)).alloc (.cells #[.slice (some ⟨w.heap.size + 2, 0, none⟩) N N] 24)).alloc (.cells #[slfF w.heap.size] 179)).drew :=
    ⟨bl_drew (by go_grown), (((e1.alloc _).alloc _).alloc _).alloc _, ((e2.alloc _).alloc _).alloc _, (e3.alloc _).alloc _, e4.alloc _, e5, by simp, fun x hx => by
      rw [List.mem_replicate] at hx; rw [hx.2]; exact ⟨by decide, by decide⟩⟩
  have HE := Lib.hid E
  have eo : (((((w.alloc (.cells #[.slice A N c] 46)).alloc (.cells #[.int .i64 (n : Int)] 3)).alloc (.cells (madeCells #[.int .i64 0] N) 3)).alloc (.cells #[.slice (some ⟨w.heap.size + 1 + 1, 0, none⟩) N N] 24)).alloc (.cells #[(.func (.func 196) #[] #[.pointer (some ⟨w.heap.size, 0, none⟩), .pointer (some ⟨w.heap.size + 1, 0, none⟩), .pointer (some ⟨w.heap.size + 1 + 1 + 1, 0, none⟩), .pointer (some ⟨w.heap.size + 1 + 1 + 1 + 1, 0, none⟩)])] 179)).drew.cell? ⟨w.heap.size + 1 + 1 + 1, 0, none⟩ = some (.slice (some ⟨w.heap.size + 1 + 1, 0, none⟩) N N) := E.out.c1
  have ec : (((((w.alloc (.cells #[.slice A N c] 46)).alloc (.cells #[.int .i64 (n : Int)] 3)).alloc (.cells (madeCells #[.int .i64 0] N) 3)).alloc (.cells #[.slice (some ⟨w.heap.size + 1 + 1, 0, none⟩) N N] 24)).alloc (.cells #[(.func (.func 196) #[] #[.pointer (some ⟨w.heap.size, 0, none⟩), .pointer (some ⟨w.heap.size + 1, 0, none⟩), .pointer (some ⟨w.heap.size + 1 + 1 + 1, 0, none⟩), .pointer (some ⟨w.heap.size + 1 + 1 + 1 + 1, 0, none⟩)])] 179)).drew.cell? ⟨w.heap.size + 1 + 1 + 1 + 1, 0, none⟩ = some (.func (.func 196) #[] #[.pointer (some ⟨w.heap.size, 0, none⟩), .pointer (some ⟨w.heap.size + 1, 0, none⟩), .pointer (some ⟨w.heap.size + 1 + 1 + 1, 0, none⟩), .pointer (some ⟨w.heap.size + 1 + 1 + 1 + 1, 0, none⟩)]) := E.rest.c1
  clear E e1 e2 e3 e4 e5 em hr hN
  go_enter Try.func142, Try.ntmps142
  go_wp2_with fail
  go_region_held3 (fun w' => w'.cell? ⟨w.heap.size + 1 + 1 + 1, 0, none⟩ = some (.slice (some ⟨w.heap.size + 1 + 1, 0, none⟩) N N) ∧ w'.cell? ⟨w.heap.size + 1 + 1 + 1 + 1, 0, none⟩ = some (.func (.func 196) #[] #[.pointer (some ⟨w.heap.size, 0, none⟩), .pointer (some ⟨w.heap.size + 1, 0, none⟩), .pointer (some ⟨w.heap.size + 1 + 1 + 1, 0, none⟩), .pointer (some ⟨w.heap.size + 1 + 1 + 1 + 1, 0, none⟩)])) (go_keep)
    (first | (go_at_call 196; refine (H.out _ HE.out).mono ?_; rintro e w1 ⟨rfl, o5, E5, ht5, hs5⟩; have eo5 : w1.cell? ⟨w.heap.size + 1 + 1 + 1, 0, none⟩ = some (.slice (some ⟨w.heap.size + 1 + 1, 0, none⟩) N N) := E5.out.c1; have ec5 : w1.cell? ⟨w.heap.size + 1 + 1 + 1 + 1, 0, none⟩ = some (.func (.func 196) #[] #[.pointer (some ⟨w.heap.size, 0, none⟩), .pointer (some ⟨w.heap.size + 1, 0, none⟩), .pointer (some ⟨w.heap.size + 1 + 1 + 1, 0, none⟩), .pointer (some ⟨w.heap.size + 1 + 1 + 1 + 1, 0, none⟩)]) := E5.rest.c1; have HE5 := Lib.hid E5; have Hs5 := Lib.hid hs5; clear E5 ht5 hs5))
  all_goals go_wp2_with fail
  all_goals go_ret2
  all_goals
    have hown : OwI w.heap.size w1 (.slice (some ⟨w.heap.size + 2, 0, none⟩) N N) o5 := by
      have h1 := HE5.out.row.own (base := w.heap.size) (by omega) (n := N) (sz := 1) (by rw [List.length_map, HE5.out.len, Nat.mul_one]) (by simp only [maxLen]; omega)
      refine ⟨⟨some ⟨w.heap.size + 2, 0, none⟩, N, by rw [HE5.out.len]⟩, ?_, HE5.out.i64⟩
      rw [HE5.out.len]; exact h1
    exact ⟨_, rfl, ⟨o5, hown, Hs5.out⟩, HE5.out.bel⟩
def mhTo (l : List Dm) (cs : List Int) (i : Nat) (x : Int) (j : Nat) : Bool := (List.range j).all fun k => !(cAt cs k == x && touchAt l i k)
theorem mhTo_succ (l : List Dm) (cs : List Int) (i : Nat) (x : Int) (j : Nat) : mhTo l cs i x (j + 1) = (mhTo l cs i x j && !(cAt cs j == x && touchAt l i j)) := by simp [mhTo, List.range_succ]
theorem mhTo_all (l : List Dm) (cs : List Int) (i : Nat) (x : Int) : mhTo l cs i x i = mh l cs i x := rfl
def colorR (l : List Dm) (n : Int) : Option (List Int) := if apart l && inB n 0 6 then srch l n.toNat l.length [] else none
theorem colorR_len (l : List Dm) (n : Int) : ((colorR l n).getD []).length ≤ 18 := by
  unfold colorR
  split
  · rename_i h
    rw [Bool.and_eq_true] at h
    have h18 : l.length ≤ 18 := by
      have := (apart_iff.1 h.1).1
      unfold few at this
      rw [Bool.and_eq_true, decide_eq_true_eq] at this
      exact this.2
    cases hs : srch l n.toNat l.length [] with
    | none => simp
    | some o =>
      have := (srch_len _ _ _ hs).1
      simp at this
      simp; omega
  · simp
theorem apart_18 {l : List Dm} (h : apart l = true) : l.length ≤ 18 := by
  have := (apart_iff.1 h).1
  unfold few at this
  rw [Bool.and_eq_true, decide_eq_true_eq] at this
  exact this.2
set_option maxRecDepth 100000 in
set_option maxHeartbeats 1000000 in
theorem ColorWith_i (A : Option Addr) (c : Nat) (l : List Dm) (n : Int) (w : World) (hl : l.length ≤ 1048576) (hr : RdD w A l) (hc : l.length ≤ c) :
    Calls Try.prog 60 #[.slice A l.length c, .int .i64 n] w fun e w' => ∃ v, e = .returned (.tuple #[v, .bool (colorR l n).isSome]) ∧ OwI w.heap.size w' v ((colorR l n).getD []) ∧ Below w.heap.size w w' := by
  have hr' := Lib.hid hr
  have hB := Below.refl w.heap.size w
  clear hr
  cases c1 : apart l
  · have hv := Lib.hid (show colorR l n = none by rw [colorR, c1]; rfl)
    have C1 := Lib.hid c1
    clear c1
    go_enter Try.func60, Try.ntmps60
    go_wp2_with (go_at_call 141; refine (areApart_any A c l _ hl (hr'.out.below hB) hc).mono ?_; rintro e wn ⟨rfl, hbn⟩; have hSz := bl_sz (bl_trans hB (by go_grown)) hbn; replace hB := bl_trans (bl_trans hB (by go_grown)) hbn; rw [C1.out]; clear hbn)
    go_ret2
    exact ⟨_, by rw [hv.out]; rfl, by rw [hv.out]; exact OwI.nil_ _ _, hB⟩
  · have C1 := Lib.hid c1
    have h18 := apart_18 c1
    cases c2 : inB n 0 6
    · have hv := Lib.hid (show colorR l n = none by rw [colorR, c2, Bool.and_false]; rfl)
      have C2 := Lib.hid c2
      clear c1 c2
      go_enter Try.func60, Try.ntmps60
      go_wp2_with (first | (go_at_call 141; refine (areApart_any A c l _ hl (hr'.out.below hB) hc).mono ?_; rintro e wn ⟨rfl, hbn⟩; have hSz := bl_sz (bl_trans hB (by go_grown)) hbn; replace hB := bl_trans (bl_trans hB (by go_grown)) hbn; rw [C1.out]; clear hbn) | (go_at_call 89; refine (within_any _ _ _ _).mono ?_; rintro e wn ⟨rfl, rfl⟩; rw [C2.out]))
      go_ret2
      exact ⟨_, by rw [hv.out]; rfl, by rw [hv.out]; exact OwI.nil_ _ _, hB⟩
    · have i2 := inB_true.1 c2
      obtain ⟨m, rfl⟩ := Int.eq_ofNat_of_zero_le i2.1
      have C2 := Lib.hid c2
      have hv := Lib.hid (show colorR l (m : Int) = srch l m l.length [] by rw [colorR, c1, c2]; rfl)
      have hm6 : m ≤ 6 := by omega
      clear c1 c2 i2
      cases c3 : srch l m l.length [] with
      | none =>
        have C3 := Lib.hid c3
        clear c3
        go_enter Try.func60, Try.ntmps60
        go_wp2_with (first | (go_at_call 141; refine (areApart_any A c l _ hl (hr'.out.below hB) hc).mono ?_; rintro e wn ⟨rfl, hbn⟩; have hSz := bl_sz (bl_trans hB (by go_grown)) hbn; replace hB := bl_trans (bl_trans hB (by go_grown)) hbn; rw [C1.out]; clear hbn) | (go_at_call 89; refine (within_any _ _ _ _).mono ?_; rintro e wn ⟨rfl, rfl⟩; rw [C2.out]) | (go_at_call 142; refine (firstColors_any A l.length c l m _ rfl h18 hc (hr'.out.below hB) hm6).mono ?_; rintro e wn ⟨v, rfl, ⟨o5, ho5, hs5⟩, hbn⟩; have hSz := bl_sz (bl_trans hB (by go_grown)) hbn; replace hB := bl_trans (bl_trans hB (by go_grown)) hbn; rw [C3.out]; clear hbn))
        go_ret2
        exact ⟨_, by rw [hv.out, C3.out]; rfl, by rw [hv.out, C3.out]; exact OwI.nil_ _ _, hB⟩
      | some so =>
        have C3 := Lib.hid c3
        clear c3
        go_enter Try.func60, Try.ntmps60
        go_wp2_with (first | (go_at_call 141; refine (areApart_any A c l _ hl (hr'.out.below hB) hc).mono ?_; rintro e wn ⟨rfl, hbn⟩; have hSz := bl_sz (bl_trans hB (by go_grown)) hbn; replace hB := bl_trans (bl_trans hB (by go_grown)) hbn; rw [C1.out]; clear hbn) | (go_at_call 89; refine (within_any _ _ _ _).mono ?_; rintro e wn ⟨rfl, rfl⟩; rw [C2.out]) | (go_at_call 142; refine (firstColors_any A l.length c l m _ rfl h18 hc (hr'.out.below hB) hm6).mono ?_; rintro e wn ⟨v, rfl, ⟨o5, ho5, hs5⟩, hbn⟩; have hSz := bl_sz (bl_trans hB (by go_grown)) hbn; replace hB := bl_trans (bl_trans hB (by go_grown)) hbn; rw [C3.out]; have Ho5 := Lib.hid (ho5.mono hSz); have Hs5 := Lib.hid (hs5 so C3.out); clear ho5 hs5; clear hbn))
        go_ret2
        exact ⟨_, by rw [hv.out, C3.out]; rfl, by rw [hv.out, C3.out]; have := Ho5.out; rw [Hs5.out] at this; exact this, hB⟩
end Go.Proofs.Ytdcjhfmkkcakhaa

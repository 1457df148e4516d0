/-
  The bytes that the laws of the program draw from: an argument of bytes opened, the laws' own 'big' and 'at', the reference's copies of regions; what each returns; nothing that was there is written.
-/
import Derived.Test.YtdcjhfmkkcakhaaOpen
import Derived.Test.YtdcjhfmkkcakhaaInts
namespace Go.Proofs.Ytdcjhfmkkcakhaa
open Go.ChangeShapes Go.WideShapes Go.ChangeAt Go.RowKit Go.Deep Go.Joins
set_option linter.unusedVariables false

def cB (x : Int) : Value := .int .u8 x
def RdB (w : World) (A : Option Addr) (l : List Int) : Prop := Rd w 1 A l.length (l.flatMap fun x => [cB x]) ∧ ∀ x ∈ l, 0 ≤ x ∧ x ≤ 255
theorem RdB.below {w w' : World} {A : Option Addr} {l : List Int} (h : RdB w A l) (hb : Below w.heap.size w w') : RdB w' A l := ⟨h.1.below hb, h.2⟩
theorem RdB.at_ {w : World} {A : Option Addr} {l : List Int} (h : RdB w A l) {k : Nat} (hk : k < l.length) :
    ∃ b off x, A = some ⟨b, off, none⟩ ∧ b < w.heap.size ∧ l[k]? = some x ∧ 0 ≤ x ∧ x ≤ 255 ∧ w.cell? ⟨b, off + k, none⟩ = some (.int .u8 x) := by
  obtain ⟨b, off, e, hlt, hc⟩ := h.1.2 (by omega)
  have hx : l[k]? = some l[k] := List.getElem?_eq_getElem hk
  have hm := h.2 _ (List.getElem_mem hk)
  have hg := flatMap_get (fun x => [cB x]) 1 (fun _ => rfl) l k
  refine ⟨b, off, l[k], e, hlt, hx, hm.1, hm.2, ?_⟩
  have := hc (k * 1 + 0) _ (hg 0 _ hx (by omega)); simpa [cB] using this

section
variable {H : Type} {enc : TypeId × Value → H} {P : Program} {w : World} {base : Nat} {spare : Nat → Bool} {held : Bool}
theorem each_byte {e : TypeId} (he : P.underlying e = some (.int .u8)) (n : Nat) (cs : List Value) (y : DataW H × List MemPlace)
    (h : DataW.trod enc P w base spare held n e cs = some y) (hl : cs.length = 1) : ∃ a : Int, cs = [cB a] ∧ (0 ≤ a ∧ a ≤ 255) := by
  obtain ⟨a, e0, _, w0⟩ := DataW.trod_int he h
  refine ⟨a, e0, ?_⟩
  simp [Lit.wf, IntKind.min, IntKind.max, IntKind.bits, IntKind.signed] at w0
  omega
theorem op_bytes {r : Reach} {b0 : Nat} {t e : TypeId} {v : Value} {d : DataW H} {p : List MemPlace} (ht : P.underlying t = some (.slice e)) (he : P.underlying e = some (.int .u8)) (hC : P.cellsOf e = 1)
    (hv : Value.okWide P w r b0 t v) (h : DataW.Trod enc P w base spare held t v d p) : ∃ A c l, v = .slice A (List.length l) c ∧ RdB w A l ∧ List.length l ≤ maxLen :=
  op_structs (fun x => [cB x]) (fun a => 0 ≤ a ∧ a ≤ 255) 1 (by decide) (fun _ => rfl) ht hC (each_byte he) hv h
end

theorem big_any (A : Option Addr) (c : Nat) (l : List Int) (w : World) (hl : l.length ≤ maxLen) :
    Calls Try.prog 12 #[.slice A l.length c] w fun e w' => e = .returned (.bool (decide ((l.length : Int) > 1048576))) ∧ w = w' := by
  go_enter Try.func12, Try.ntmps12
  go_wp2
  go_ret
  exact ⟨rfl, rfl⟩
def atB (l : List Int) (j : Nat) : Int := l.getD ((j * 5 + 1) % l.length) 0
theorem atB_rng {w : World} {A : Option Addr} {l : List Int} (h : RdB w A l) (j : Nat) : 0 ≤ atB l j ∧ atB l j ≤ 255 := by
  unfold atB
  rw [List.getD_eq_getElem?_getD]
  cases hx : l[(j * 5 + 1) % l.length]? with
  | none => simp
  | some x => exact h.2 x (List.mem_of_getElem? hx)
theorem at_any (A : Option Addr) (c : Nat) (l : List Int) (j : Nat) (w : World) (hj : j ≤ 10) (hl : l.length ≤ 1048576) (hr : RdB w A l) :
    Calls Try.prog 16 #[.slice A l.length c, .int .i64 (j : Int)] w fun e w' => e = .returned (.int .i64 (atB l j)) ∧ w = w' := by
  by_cases h0 : l.length = 0
  · have hv : atB l j = 0 := by
      obtain rfl : l = [] := List.eq_nil_of_length_eq_zero h0
      simp [atB]
    have hv' := Lib.hid hv
    clear hv
    have hq : ((l.length : Int) == 0) = true := by simp only [beq_iff_eq]; omega
    go_enter Try.func16, Try.ntmps16
    go_wp2
    go_ret
    exact ⟨by rw [hv'.out]; rfl, rfl⟩
  · have hq : ((l.length : Int) == 0) = false := by simp only [beq_eq_false_iff_ne]; omega
    have hlt := Nat.mod_lt (j * 5 + 1) (Nat.pos_of_ne_zero h0)
    obtain ⟨b, off, x, rfl, hbl, hx, hx0, hx1, hc⟩ := hr.at_ hlt
    have hv : atB l j = x := by rw [atB, List.getD_eq_getElem?_getD, hx]; rfl
    have hv' := Lib.hid hv
    clear hv hr
    obtain ⟨m, hm⟩ : ∃ m, m = (j * 5 + 1) % l.length := ⟨_, rfl⟩
    rw [← hm] at hc hlt
    have e1 : IntKind.i64.wrap ((j : Int) * 5) = (j : Int) * 5 := IntWalk.i64_in _ (by omega)
    have e2 : IntKind.i64.wrap ((j : Int) * 5 + 1) = (j : Int) * 5 + 1 := IntWalk.i64_in _ (by omega)
    have e3 : ((j : Int) * 5 + 1).tmod (l.length : Int) = (m : Int) := by
      rw [Int.tmod_eq_emod_of_nonneg (by omega), hm]; push_cast; rfl
    clear hm
    go_enter Try.func16, Try.ntmps16
    go_wp2
    go_ret
    exact ⟨by rw [hv'.out]; rfl, rfl⟩
theorem at_lit (A : Option Addr) (c : Nat) (l : List Int) (x : Int) (j : Nat) (hx : x = j) (w : World) (hj : j ≤ 10) (hl : l.length ≤ 1048576) (hr : RdB w A l) :
    Calls Try.prog 16 #[.slice A l.length c, .int .i64 x] w fun e w' => e = .returned (.int .i64 (atB l j)) ∧ w = w' := by
  subst hx
  exact at_any A c l j w hj hl hr
theorem atB_mod {w : World} {A : Option Addr} {l : List Int} (h : RdB w A l) (j : Nat) (d : Nat) (hd : 0 < d) : ∃ k : Nat, k < d ∧ (atB l j).tmod (d : Int) = (k : Int) := by
  have h1 := atB_rng h j
  refine ⟨((atB l j) % (d : Int)).toNat, ?_, ?_⟩
  · have := Int.emod_lt_of_pos (atB l j) (show (0 : Int) < (d : Int) by omega)
    have := Int.emod_nonneg (atB l j) (show (d : Int) ≠ 0 by omega)
    omega
  · rw [Int.tmod_eq_emod_of_nonneg h1.1]
    have := Int.emod_nonneg (atB l j) (show (d : Int) ≠ 0 by omega)
    omega
end Go.Proofs.Ytdcjhfmkkcakhaa

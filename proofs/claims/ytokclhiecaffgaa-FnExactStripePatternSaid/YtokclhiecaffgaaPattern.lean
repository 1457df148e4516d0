/-
  Contracts of the functions on patterns (PatternOk, both; the laws' own copy, comparison and size): what each returns, as a function of its arguments; nothing that was there is written; at most 1048576 numbers.
-/
import Derived.Test.YtokclhiecaffgaaInts
namespace Go.Proofs.Ytokclhiecaffgaa
open Go.ChangeShapes Go.WideShapes Go.ChangeAt Go.RowKit Go.Deep
set_option linter.unusedVariables false

def patOk (a b m : Int) (l : List Int) : Bool := inB a 1 4 && inB b 1 4 && inB m 2 9 && decide ((l.length : Int) = a * b) && l.all fun x => inB x 0 (m - 1)
theorem small_mul {a b : Int} (h1 : 1 ≤ a) (h2 : a ≤ 4) (h3 : 1 ≤ b) (h4 : b ≤ 4) : 1 ≤ a * b ∧ a * b ≤ 16 := by
  have ha : a = 1 ∨ a = 2 ∨ a = 3 ∨ a = 4 := by omega
  rcases ha with rfl | rfl | rfl | rfl <;> omega
set_option maxHeartbeats 1000000 in
theorem eqPattern_any (x y z a b m : Int) (A B : Option Addr) (c d : Nat) (l k : List Int) (w : World) (hl : l.length ≤ 1048576) (hr : RdI w A l) (hs : RdI w B k) :
    Calls Try.prog 21 #[.agg #[.int .i64 x, .int .i64 y, .int .i64 z, .slice A l.length c], .agg #[.int .i64 a, .int .i64 b, .int .i64 m, .slice B k.length d]] w fun e w' => e = .returned (.bool (decide (x = a ∧ y = b ∧ z = m ∧ l = k))) ∧ Below w.heap.size w w' := by
  (have hB := Below.refl w.heap.size w; have P := (Blk.new w 28 [.int .i64 x, .int .i64 y, .int .i64 z, .slice A l.length c]).alloc (.cells #[.int .i64 a, .int .i64 b, .int .i64 m, .slice B k.length d] 28); have Pc := P.c4; have Q := Blk.new2 w (.cells #[.int .i64 x, .int .i64 y, .int .i64 z, .slice A l.length c] 28) 28 [.int .i64 a, .int .i64 b, .int .i64 m, .slice B k.length d]; have Qc := Q.c4)
  have hr' := Lib.hid hr
  have hs' := Lib.hid hs
  clear hr hs
  go_enter Try.func21, Try.ntmps21
  go_wp2_with (go_at_call 18; refine (eqIntS_any A B c d l k _ hl (hr'.out.below (by go_grown)) (hs'.out.below (by go_grown))).mono ?_; rintro e wn ⟨rfl, hbn⟩; replace hB := bl_trans (bl_trans hB (by go_grown)) hbn)
  all_goals go_ret
  all_goals exact ⟨ret_bool (by simp_all), (by first | (go_grown; done) | exact bl_trans hB (by go_grown))⟩
end Go.Proofs.Ytokclhiecaffgaa

/-
  Contracts of the functions on two dominoes, and of a domino's set of cells: what each returns, as a function of its arguments; nothing that was there is written; no statement is proved here.
-/
import Derived.Test.YthclolooidnniaaBits
namespace Go.Proofs.Ythclolooidnniaa
open Go.ChangeShapes Go.WideShapes Go.ChangeAt Go.RowKit Go.Deep
set_option linter.unusedVariables false

theorem with_any (s : Nat) (x y : Int) (w : World) (hs : s < 18446744073709551616) (h : cellOk x y = true) :
    Calls Try.prog 116 #[.int .u64 s, .agg #[.int .i64 x, .int .i64 y]] w fun e w' => e = .returned (.int .u64 ((s ||| nthBit x y : Nat) : Int)) ∧ Below w.heap.size w w' := by
  have hc := cellOk_iff.1 h
  have P := Blk.new w 49 [.int .i64 x, .int .i64 y]
  have Pc := P.c2
  have hB := Below.refl w.heap.size w
  have hi : cellIdx x y = y * 8 + x := by simp [cellIdx, h]
  have hi' := Lib.hid hi
  have hf : bits .or .u64 (s : Int) (IntKind.u64.wrap ((2 : Int) ^ (y * 8 + x).toNat)) = ((s ||| nthBit x y : Nat) : Int) := by
    rw [wrap_pow (by omega)]; exact u64_or_nat _ _ hs (nthBit_lt h)
  have hf' := Lib.hid hf
  clear hi hf
  go_enter Try.func116, Try.ntmps116
  go_wp2_with (go_at_call 119; refine (CellIndex_i _ _ _).mono ?_; rintro e wn ⟨rfl, hbn⟩; have hSz := bl_sz (bl_trans hB (by go_grown)) hbn; replace hB := bl_trans (bl_trans hB (by go_grown)) hbn; replace P := P.bel (bl_trans (by go_grown) hbn); replace Pc := P.c2; rw [hi'.out]; clear hbn)
  go_ret
  exact ⟨ret_int hf'.out, (by first | (go_grown; done) | exact bl_trans hB (by go_grown))⟩
end Go.Proofs.Ythclolooidnniaa

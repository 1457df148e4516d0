/-
  The two ways to list the matrices with alternating signs, as plain functions, and that they list the same for 1 to 4 rows.
-/
import Derived.Test.YtdcjhfmkkcakhaaL25R
namespace Go.Proofs.Ytdcjhfmkkcakhaa

/-- the reference: row by row -/
def sp25 (n : Nat) (rows : List (List Int)) : Nat → List (List Int) → List Int → List (List (List Int))
  | 0, head, sums => if sums.all (· == 1) then [head] else []
  | f + 1, head, sums => rows.flatMap fun r => let next := List.zipWith (· + ·) sums r
      if next.all (fun x => inB x 0 1) then sp25 n rows f (head ++ [r]) next else []
def spL (n : Nat) : List (List (List Int)) := sp25 n (rowsTo n (th n)) n [] (List.replicate n 0)
/-- the program: entry by entry; flat: the entries so far -/
def chunk (n : Nat) (flat : List Int) : List (List Int) := (List.range n).map fun i => (flat.drop (i * n)).take n
def im25 (n : Nat) : Nat → Nat → Int → List Int → List Int → List (List (List Int))
  | 0, k, sum, flat, _ => if k > 0 && k % n == 0 && sum != 1 then [] else if altB (chunk n flat) then [chunk n flat] else []
  | f + 1, k, sum0, flat, cols =>
    if k > 0 && k % n == 0 && sum0 != 1 then [] else
    let sum := if k > 0 && k % n == 0 then 0 else sum0
    [-1, 0, 1].flatMap fun (x : Int) =>
      let c := (cols[k % n]?).getD 0 + x
      if inB (sum + x) 0 1 && inB c 0 1 then im25 n f (k + 1) (sum + x) (flat ++ [x]) (cols.set (k % n) c) else []
def imL (n : Nat) : List (List (List Int)) := im25 n (n * n) 0 0 [] (List.replicate n 0)
theorem l25_one : imL 1 = spL 1 := by decide +kernel
theorem l25_two : imL 2 = spL 2 := by decide +kernel
theorem l25_three : imL 3 = spL 3 := by decide +kernel
theorem l25_four : imL 4 = spL 4 := by decide +kernel
theorem l25_num : (spL 1).length = 1 ∧ (spL 2).length = 2 ∧ (spL 3).length = 7 ∧ (spL 4).length = 42 := by decide +kernel
end Go.Proofs.Ytdcjhfmkkcakhaa

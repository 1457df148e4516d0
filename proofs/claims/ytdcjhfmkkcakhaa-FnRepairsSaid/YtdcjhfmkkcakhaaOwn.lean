/-
  One law on append for each kind of element (integers, cells, dominoes, corners): a slice of the call's own, by its list, gets one element more; no statement is proved here; at most 1048577 elements.
-/
import Derived.Test.YtdcjhfmkkcakhaaBase
namespace Go.Proofs.Ytdcjhfmkkcakhaa
open Go.ChangeShapes Go.WideShapes Go.ChangeAt Go.RowKit Go.Deep
set_option linter.unusedVariables false

theorem own_form {w : World} {B : Nat} {E : TypeId} {sz : Nat} {v : Value} {n : Nat} {xs : List Value} (h : w.ownsRow B E sz v n xs) : ∃ A c, v = .slice A n c := by
  rcases h.2 with ⟨rfl, rfl⟩ | ⟨g, cap, cur, rfl, _⟩
  · exact ⟨_, _, rfl⟩
  · exact ⟨_, _, rfl⟩
theorem ownsRow_mono {w : World} {B B' : Nat} {E : TypeId} {sz : Nat} {v : Value} {n : Nat} {xs : List Value} (h : w.ownsRow B E sz v n xs) (hB : B' ≤ B) : w.ownsRow B' E sz v n xs := by
  refine ⟨h.1, ?_⟩
  rcases h.2 with h2 | ⟨g, cap, cur, hv, hb, r⟩
  · exact .inl h2
  · exact .inr ⟨g, cap, cur, hv, Nat.le_trans hB hb, r⟩
theorem ownsRow_bel {w w' : World} {B : Nat} {E : TypeId} {sz : Nat} {v : Value} {n : Nat} {xs : List Value} (h : w.ownsRow B E sz v n xs) (hb : Below w.heap.size w w') : w'.ownsRow B E sz v n xs := by
  refine ⟨h.1, ?_⟩
  rcases h.2 with h2 | ⟨g, cap, cur, hv, hB, hg, r⟩
  · exact .inl h2
  · exact .inr ⟨g, cap, cur, hv, hB, (hb.block g (Array.getElem?_eq_some_iff.1 hg).1).trans hg, r⟩
theorem OwI.bel {B : Nat} {w w' : World} {v : Value} {l : List Int} (h : OwI B w v l) (hb : Below w.heap.size w w') : OwI B w' v l := ⟨h.1, ownsRow_bel h.2.1 hb, h.2.2⟩
theorem OwC.bel {B : Nat} {w w' : World} {v : Value} {l : List (Int × Int)} (h : OwC B w v l) (hb : Below w.heap.size w w') : OwC B w' v l := ⟨h.1, ownsRow_bel h.2.1 hb, h.2.2⟩
theorem OwD.bel {B : Nat} {w w' : World} {v : Value} {l : List (Int × Int × Bool)} (h : OwD B w v l) (hb : Below w.heap.size w w') : OwD B w' v l := ⟨h.1, ownsRow_bel h.2.1 hb, h.2.2⟩
theorem OwI.mono {B B' : Nat} {w : World} {v : Value} {l : List Int} (h : OwI B w v l) (hB : B' ≤ B) : OwI B' w v l := ⟨h.1, ownsRow_mono h.2.1 hB, h.2.2⟩
theorem OwC.mono {B B' : Nat} {w : World} {v : Value} {l : List (Int × Int)} (h : OwC B w v l) (hB : B' ≤ B) : OwC B' w v l := ⟨h.1, ownsRow_mono h.2.1 hB, h.2.2⟩
theorem OwD.mono {B B' : Nat} {w : World} {v : Value} {l : List (Int × Int × Bool)} (h : OwD B w v l) (hB : B' ≤ B) : OwD B' w v l := ⟨h.1, ownsRow_mono h.2.1 hB, h.2.2⟩
theorem below_grown {w wr w1 : World} {B : Nat} {E : TypeId} {sz : Nat} {v : Value} {n : Nat} {xs : List Value} {o : Obj} (h : wr.ownsRow B E sz v n xs) (hB : B ≤ wr.heap.size) (hb : Below B w wr) (hg : (wr.alloc o).grownBy w1 v.ownBlock) : Below B w w1 :=
  (hb.alloc hB o).grown hg (by simp; omega) (fun k hk => (h.lt k hk).1)

theorem append_one {P : Program} {wr : World} {ops : Array Oper} {rest : List Oper} {o : Oper} {a : Act} {Q : Exit → Act → World → Prop} (hgd : o.guard = none) (s x : Operand) (T : TypeId)
    (ho : o.op = .call { callee := .builtin .append, args := #[s, x], argTypes := #[T, T] })
    (B : Nat) (E : TypeId) (z : Value) (sz bytes : Nat) (ht : P.underlying T = some (.slice E)) (hinfo : (P.info? E).map (fun i => (i.zero, i.size, i.bytes)) = some (some z, sz, bytes)) (hzs : z.cells.size = sz) (hsz : 0 < sz) (hby : bytes ≤ 100)
    (v : Value) (n : Nat) (xs news : List Value) (hs : a.eval s = v) (hx : a.eval x = .slice (some ⟨wr.heap.size, 0, none⟩) 1 1) (hown : wr.ownsRow B E sz v n xs) (hl : news.length = sz) (h1 : ∀ u ∈ news, u.oneCell' = true) (hn : n ≤ 1048576) (hB : B ≤ wr.heap.size)
    (h : ∀ v' w1, w1.ownsRow B E sz v' (n + 1) (xs ++ news) → (wr.alloc (.cells news.toArray E)).grownBy w1 v.ownBlock → wpList P ops Q rest (a.put o.dst v') w1) :
    wpList P ops Q (o :: rest) a (wr.alloc (.cells news.toArray E)) := by
  obtain ⟨i, hi, hzz⟩ := Option.map_eq_some_iff.1 hinfo
  simp only [Prod.mk.injEq] at hzz
  obtain ⟨hz, hs', hb⟩ := hzz
  refine wpList_append_own (P := P) _ hgd s x T ho B E i z sz bytes ht hi hz hs' hb hzs hsz v n xs hs (hown.alloc _) ⟨wr.heap.size, 0, none⟩ 1 1 news hx (by rw [hl, Nat.one_mul]) (fun j u hu => ?_) h1 (by simp only [maxLen]; omega) ?_ (by simp; omega) (fun v' w' g1 g2 _ => h v' w' g1 g2)
  · rw [Addr.add_lit, Nat.zero_add, (Blk.new wr E news).cell j]; exact hu
  · have := Nat.mul_le_mul (show n + 1 ≤ 1048577 by omega) hby; omega

theorem wpList_appI {wr : World} {ops : Array Oper} {rest : List Oper} {o : Oper} {a : Act} {Q : Exit → Act → World → Prop} (hgd : o.guard = none) (s x : Operand) (ho : o.op = .call { callee := .builtin .append, args := #[s, x], argTypes := #[24, 24] })
    (B : Nat) (v : Value) (l : List Int) (c : Int) (hs : a.eval s = v) (hx : a.eval x = .slice (some ⟨wr.heap.size, 0, none⟩) 1 1) (hown : OwI B wr v l) (hB : B ≤ wr.heap.size) (hn : l.length ≤ 1048576) (hc : I64 c)
    (h : ∀ v' w1, OwI B w1 v' (l ++ [c]) → (∀ w, Below B w wr → Below B w w1) → (wr.alloc (.cells #[.int .i64 c] 3)).grownBy w1 v.ownBlock → wpList Try.prog ops Q rest (a.put o.dst v') w1) :
    wpList Try.prog ops Q (o :: rest) a (wr.alloc (.cells #[.int .i64 c] 3)) := by
  obtain ⟨_, o1, o2⟩ := hown
  refine append_one (P := Try.prog) hgd s x 24 ho B 3 (.int .i64 0) 1 8 Try.underlying24 (by kernel_rfl) rfl (by decide) (by decide) v l.length (l.map cI) [.int .i64 c] hs hx o1 rfl (by simp [Value.oneCell']) hn hB (fun v' w1 g1 g2 => h v' w1 ⟨?_, ?_, ?_⟩ (fun w hb => below_grown o1 hB hb g2) g2)
  · simpa using own_form g1
  · simpa [cI] using g1
  · intro y hy
    rcases List.mem_append.1 hy with hy | hy
    · exact o2 y hy
    · simp at hy; subst hy; exact hc
theorem wpList_appC {wr : World} {ops : Array Oper} {rest : List Oper} {o : Oper} {a : Act} {Q : Exit → Act → World → Prop} (hgd : o.guard = none) (s x : Operand) (ho : o.op = .call { callee := .builtin .append, args := #[s, x], argTypes := #[28, 28] })
    (B : Nat) (v : Value) (l : List (Int × Int)) (c d : Int) (hs : a.eval s = v) (hx : a.eval x = .slice (some ⟨wr.heap.size, 0, none⟩) 1 1) (hown : OwC B wr v l) (hB : B ≤ wr.heap.size) (hn : l.length ≤ 1048576) (hc : I64 c) (hd : I64 d)
    (h : ∀ v' w1, OwC B w1 v' (l ++ [(c, d)]) → (∀ w, Below B w wr → Below B w w1) → (wr.alloc (.cells #[.int .i64 c, .int .i64 d] 35)).grownBy w1 v.ownBlock → wpList Try.prog ops Q rest (a.put o.dst v') w1) :
    wpList Try.prog ops Q (o :: rest) a (wr.alloc (.cells #[.int .i64 c, .int .i64 d] 35)) := by
  obtain ⟨_, o1, o2⟩ := hown
  refine append_one (P := Try.prog) hgd s x 28 ho B 35 (.agg #[.int .i64 0, .int .i64 0]) 2 16 Try.underlying28 (by kernel_rfl) rfl (by decide) (by decide) v l.length (l.flatMap cC) [.int .i64 c, .int .i64 d] hs hx o1 rfl (by simp [Value.oneCell']) hn hB (fun v' w1 g1 g2 => h v' w1 ⟨?_, ?_, ?_⟩ (fun w hb => below_grown o1 hB hb g2) g2)
  · simpa using own_form g1
  · simpa [cC] using g1
  · intro y hy
    rcases List.mem_append.1 hy with hy | hy
    · exact o2 y hy
    · simp at hy; subst hy; exact ⟨hc, hd⟩
theorem wpList_appD {wr : World} {ops : Array Oper} {rest : List Oper} {o : Oper} {a : Act} {Q : Exit → Act → World → Prop} (hgd : o.guard = none) (s x : Operand) (ho : o.op = .call { callee := .builtin .append, args := #[s, x], argTypes := #[46, 46] })
    (B : Nat) (v : Value) (l : List (Int × Int × Bool)) (c d : Int) (e : Bool) (hs : a.eval s = v) (hx : a.eval x = .slice (some ⟨wr.heap.size, 0, none⟩) 1 1) (hown : OwD B wr v l) (hB : B ≤ wr.heap.size) (hn : l.length ≤ 1048576) (hc : I64 c) (hd : I64 d)
    (h : ∀ v' w1, OwD B w1 v' (l ++ [(c, d, e)]) → (∀ w, Below B w wr → Below B w w1) → (wr.alloc (.cells #[.int .i64 c, .int .i64 d, .bool e] 53)).grownBy w1 v.ownBlock → wpList Try.prog ops Q rest (a.put o.dst v') w1) :
    wpList Try.prog ops Q (o :: rest) a (wr.alloc (.cells #[.int .i64 c, .int .i64 d, .bool e] 53)) := by
  obtain ⟨_, o1, o2⟩ := hown
  refine append_one (P := Try.prog) hgd s x 46 ho B 53 (.agg #[.int .i64 0, .int .i64 0, .bool false]) 3 24 Try.underlying46 (by kernel_rfl) rfl (by decide) (by decide) v l.length (l.flatMap cD) [.int .i64 c, .int .i64 d, .bool e] hs hx o1 rfl (by simp [Value.oneCell']) hn hB (fun v' w1 g1 g2 => h v' w1 ⟨?_, ?_, ?_⟩ (fun w hb => below_grown o1 hB hb g2) g2)
  · simpa using own_form g1
  · simpa [cD] using g1
  · intro y hy
    rcases List.mem_append.1 hy with hy | hy
    · exact o2 y hy
    · simp at hy; subst hy; exact ⟨hc, hd⟩
theorem OwI.nil_ (B : Nat) (w : World) : OwI B w (.slice none 0 0) [] := ⟨⟨_, _, rfl⟩, World.ownsRow_nil _ _ _ _, by simp⟩
theorem OwI.new_ {B : Nat} {w : World} (hB : B ≤ w.heap.size) : OwI B (w.alloc (.cells #[] 3)) (.slice (some ⟨w.heap.size, 0, none⟩) 0 0) [] := ⟨⟨_, _, rfl⟩, World.ownsRow_made w #[] 0 hB (by simp [maxLen]) (by simp), by simp⟩
theorem OwC.nil_ (B : Nat) (w : World) : OwC B w (.slice none 0 0) [] := ⟨⟨_, _, rfl⟩, World.ownsRow_nil _ _ _ _, by simp⟩
theorem OwC.new_ {B : Nat} {w : World} (hB : B ≤ w.heap.size) : OwC B (w.alloc (.cells #[] 35)) (.slice (some ⟨w.heap.size, 0, none⟩) 0 0) [] := ⟨⟨_, _, rfl⟩, World.ownsRow_made w #[] 0 hB (by simp [maxLen]) (by simp), by simp⟩
theorem OwD.nil_ (B : Nat) (w : World) : OwD B w (.slice none 0 0) [] := ⟨⟨_, _, rfl⟩, World.ownsRow_nil _ _ _ _, by simp⟩
theorem OwD.new_ {B : Nat} {w : World} (hB : B ≤ w.heap.size) : OwD B (w.alloc (.cells #[] 53)) (.slice (some ⟨w.heap.size, 0, none⟩) 0 0) [] := ⟨⟨_, _, rfl⟩, World.ownsRow_made w #[] 0 hB (by simp [maxLen]) (by simp), by simp⟩
end Go.Proofs.Ytdcjhfmkkcakhaa

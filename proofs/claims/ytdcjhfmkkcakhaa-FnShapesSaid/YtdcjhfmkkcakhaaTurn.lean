/-
  The plain law of turns: cells that are fitted into the corner depend only on the set of cells up to a move, and a sorted list of turns depends only on the set of turns; no statement is proved here; no condition.
-/
import Derived.Test.YtdcjhfmkkcakhaaFit
namespace Go.Proofs.Ytdcjhfmkkcakhaa
open Go.ChangeShapes Go.WideShapes Go.ChangeAt Go.RowKit Go.Deep
set_option linter.unusedVariables false

/-! ### two sorted lists with the same members -/
theorem sortedG_eq {α : Type} {lt : α → α → Prop} (irr : ∀ a, ¬ lt a a) (tr : ∀ a b c, lt a b → lt b c → lt a c) : ∀ {a b : List α}, a.Pairwise lt → b.Pairwise lt → (∀ x, x ∈ a ↔ x ∈ b) → a = b := by
  intro a
  induction a with
  | nil =>
    intro b _ _ h
    cases b with
    | nil => rfl
    | cons y b => exact absurd ((h y).2 (by simp)) (by simp)
  | cons x a ih =>
    intro b ha hb h
    cases b with
    | nil => exact absurd ((h x).1 (by simp)) (by simp)
    | cons y b =>
      rw [List.pairwise_cons] at ha hb
      have hxy : x = y := by
        have h1 := (h x).1 (by simp)
        have h2 := (h y).2 (by simp)
        rw [List.mem_cons] at h1 h2
        rcases h1 with h1 | h1
        · exact h1
        · rcases h2 with h2 | h2
          · exact h2.symm
          · exact absurd (tr _ _ _ (hb.1 x h1) (ha.1 y h2)) (irr _)
      subst hxy
      congr 1
      refine ih ha.2 hb.2 fun z => ⟨fun hz => ?_, fun hz => ?_⟩
      · rcases List.mem_cons.1 ((h z).1 (by simp [hz])) with e | e
        · subst e; exact absurd (ha.1 z hz) (irr z)
        · exact e
      · rcases List.mem_cons.1 ((h z).2 (by simp [hz])) with e | e
        · subst e; exact absurd (hb.1 z hz) (irr z)
        · exact e

/-! ### fitted cells are sorted -/
theorem gtC_iff {a b : Cl} : gtC a b = true ↔ b.2 < a.2 ∨ (a.2 = b.2 ∧ b.1 < a.1) := by simp [gtC]
def ltC (a b : Cl) : Prop := gtC b a = true
theorem ltC_irr (a : Cl) : ¬ ltC a a := by unfold ltC; rw [gtC_iff]; omega
theorem ltC_tr (a b c : Cl) (h1 : ltC a b) (h2 : ltC b c) : ltC a c := by unfold ltC at *; rw [gtC_iff] at *; omega
theorem ltC_tot {a b : Cl} (h : ¬ ltC a b) (hne : b ≠ a) : ltC b a := by
  unfold ltC at *
  rw [gtC_iff] at *
  have : ¬ (b.1 = a.1 ∧ b.2 = a.2) := fun e => hne (Prod.ext e.1 e.2)
  omega
theorem posC_spec (out : List Cl) (c : Cl) : ∀ m, m ≤ out.length → (∀ j, posC out c m ≤ j → j < m → gtC (cAtC out j) c = true) ∧ (0 < posC out c m → gtC (cAtC out (posC out c m - 1)) c = false) := by
  intro m
  induction m with
  | zero => intro _; exact ⟨fun j _ h => absurd h (by omega), by simp [posC]⟩
  | succ m ih =>
    intro hm
    have h := ih (by omega)
    rw [posC]
    cases hg : gtC (cAtC out m) c with
    | true =>
      rw [if_pos rfl]
      refine ⟨fun j h1 h2 => ?_, h.2⟩
      by_cases hj : j = m
      · subst hj; exact hg
      · exact h.1 j h1 (by omega)
    | false =>
      rw [if_neg (by simp)]
      exact ⟨fun j h1 h2 => absurd h1 (by omega), fun _ => by simpa using hg⟩
theorem insC_srt {out : List Cl} {c : Cl} (hs : out.Pairwise ltC) (hc : c ∉ out) : (insC out c).Pairwise ltC := by
  have hle := posC_le out c out.length
  obtain ⟨h1, h2⟩ := posC_spec out c out.length (Nat.le_refl _)
  unfold insC
  generalize posC out c out.length = p at *
  have hhi : ∀ x ∈ out.drop p, ltC c x := fun x hx => by
    obtain ⟨j, hj, rfl⟩ := List.getElem_of_mem hx
    rw [List.getElem_drop]
    rw [List.length_drop] at hj
    have := h1 (p + j) (by omega) (by omega)
    rwa [cAtC_eq (List.getElem?_eq_getElem (by omega))] at this
  have hlo : ∀ x ∈ out.take p, ltC x c := fun x hx => by
    obtain ⟨j, hj, rfl⟩ := List.getElem_of_mem hx
    rw [List.length_take] at hj
    rw [List.getElem_take]
    have h3 := h2 (by omega)
    rw [cAtC_eq (List.getElem?_eq_getElem (i := p - 1) (by omega))] at h3
    have h4 : ltC out[p - 1] c := ltC_tot (by unfold ltC; rw [h3]; simp) (fun e => hc (e ▸ List.getElem_mem _))
    by_cases hj2 : j = p - 1
    · subst hj2; exact h4
    · rw [List.pairwise_iff_getElem] at hs
      exact ltC_tr _ _ _ (hs j (p - 1) (by omega) (by omega) (by omega)) h4
  rw [← List.take_append_drop p out, List.pairwise_append] at hs
  rw [List.pairwise_append, List.pairwise_cons]
  refine ⟨hs.1, ⟨hhi, hs.2.1⟩, fun a ha b hb => ?_⟩
  rcases List.mem_cons.1 hb with rfl | hb
  · exact hlo a ha
  · exact hs.2.2 a ha b hb
theorem foldIns_srt (l : List Cl) : ∀ out : List Cl, out.Pairwise ltC → l.Nodup → (∀ c ∈ l, c ∉ out) → (l.foldl insC out).Pairwise ltC := by
  induction l with
  | nil => intro out h _ _; exact h
  | cons c l ih =>
    intro out h hn hd
    rw [List.foldl_cons]
    rw [List.nodup_cons] at hn
    refine ih _ (insC_srt h (hd c (by simp))) hn.2 fun d hdl hin => ?_
    rcases insC_mem.1 hin with e | e
    · subst e; exact hn.1 hdl
    · exact hd d (by simp [hdl]) e
theorem mapN_nodup {α β : Type} {f : α → β} (hf : ∀ a b, f a = f b → a = b) {l : List α} (h : l.Nodup) : (l.map f).Nodup := by
  rw [List.Nodup, List.pairwise_map]
  exact h.imp fun {a b} hab e => hab (hf _ _ e)
theorem fitTo_srt {l : List Cl} (h : l.Nodup) (x y : Int) : (fitTo l x y).Pairwise ltC := by
  unfold fitTo
  refine foldIns_srt _ [] (by simp) (mapN_nodup (fun a b e => ?_) h) (by simp)
  unfold moveC at e
  injection e with e1 e2
  exact Prod.ext (by omega) (by omega)
theorem srt_nodup {l : List Cl} (h : l.Pairwise ltC) : l.Nodup := by
  unfold List.Nodup
  exact h.imp fun {a b} (hab : ltC a b) (e : a = b) => ltC_irr a (by rw [← e] at hab; exact hab)

/-! ### the least coordinates are some cell's -/
theorem minF_at (f : Cl → Int) : ∀ (l : List Cl) (m : Int), minF f m l = m ∨ ∃ c ∈ l, f c = minF f m l := by
  intro l
  induction l with
  | nil => intro m; exact .inl rfl
  | cons d l ih =>
    intro m
    have e : minF f m (d :: l) = minF f (min m (f d)) l := rfl
    rw [e]
    rcases ih (min m (f d)) with h | ⟨c, hc, h⟩
    · rw [h]
      by_cases hm : m ≤ f d
      · exact .inl (by omega)
      · exact .inr ⟨d, by simp, by omega⟩
    · exact .inr ⟨c, by simp [hc], h⟩
theorem low_at {l : List Cl} (h : l ≠ []) : (∃ c ∈ l, c.1 = lowX l) ∧ ∃ c ∈ l, c.2 = lowY l := by
  cases l with
  | nil => exact absurd rfl h
  | cons d t =>
    constructor
    · rcases minF_at Prod.fst (d :: t) d.1 with e | e
      · exact ⟨d, by simp, e.symm⟩
      · exact e
    · rcases minF_at Prod.snd (d :: t) d.2 with e | e
      · exact ⟨d, by simp, e.symm⟩
      · exact e
theorem low_iff {l : List Cl} (h : l ≠ []) {x y : Int} (h1 : ∀ c ∈ l, x ≤ c.1 ∧ y ≤ c.2) (h2 : ∃ c ∈ l, c.1 = x) (h3 : ∃ c ∈ l, c.2 = y) : lowX l = x ∧ lowY l = y := by
  obtain ⟨⟨c, hc, ec⟩, d, hd, ed⟩ := low_at h
  obtain ⟨c2, hc2, ec2⟩ := h2
  obtain ⟨d2, hd2, ed2⟩ := h3
  have a1 := h1 c hc
  have a2 := h1 d hd
  have a3 := (low_le hc2).1
  have a4 := (low_le hd2).2
  omega

/-- two lists of cells that are the same up to a move are fitted alike -/
theorem fit_same {a b : List Cl} (ha : a.Nodup) (hb : b.Nodup) (h0 : a ≠ []) (s t : Int) (h : ∀ x y, (x, y) ∈ b ↔ (x - s, y - t) ∈ a) : fitL a = fitL b := by
  have hb0 : b ≠ [] := by
    cases a with
    | nil => exact absurd rfl h0
    | cons d l =>
      intro e
      have : (d.1 + s, d.2 + t) ∈ b := (h _ _).2 (by rw [show d.1 + s - s = d.1 by omega, show d.2 + t - t = d.2 by omega]; simp)
      rw [e] at this
      simp at this
  obtain ⟨⟨c, hc, ec⟩, d, hd, ed⟩ := low_at h0
  have hl := low_iff hb0 (x := lowX a + s) (y := lowY a + t)
    (fun e he => by have := low_le ((h e.1 e.2).1 he); dsimp only at this; omega)
    ⟨(c.1 + s, c.2 + t), (h _ _).2 (by rw [show c.1 + s - s = c.1 by omega, show c.2 + t - t = c.2 by omega]; exact hc), by dsimp only; omega⟩
    ⟨(d.1 + s, d.2 + t), (h _ _).2 (by rw [show d.1 + s - s = d.1 by omega, show d.2 + t - t = d.2 by omega]; exact hd), by dsimp only; omega⟩
  unfold fitL
  rw [hl.1, hl.2]
  refine sortedG_eq ltC_irr ltC_tr (fitTo_srt ha _ _) (fitTo_srt hb _ _) fun z => ?_
  rw [fitTo_mem, fitTo_mem]
  unfold moveC
  constructor
  · rintro ⟨e, he, rfl⟩
    refine ⟨(e.1 + s, e.2 + t), (h _ _).2 (by rw [show e.1 + s - s = e.1 by omega, show e.2 + t - t = e.2 by omega]; exact he), Prod.ext (by dsimp only; omega) (by dsimp only; omega)⟩
  · rintro ⟨e, he, rfl⟩
    exact ⟨_, (h e.1 e.2).1 he, Prod.ext (by dsimp only; omega) (by dsimp only; omega)⟩
theorem fitL_nodup {l : List Cl} (h : l.Nodup) : (fitL l).Nodup := srt_nodup (fitTo_srt h _ _)

/-! ### turns -/
def rotC (c : Cl) : Cl := (-c.2, c.1)
def mirC (c : Cl) : Cl := (-c.1, c.2)
def turnC (k : Nat) (c : Cl) : Cl := Nat.repeat rotC (k % 4) (if 4 ≤ k then mirC c else c)
theorem rotC_inj (a b : Cl) (h : rotC a = rotC b) : a = b := by
  unfold rotC at h
  injection h with h1 h2
  exact Prod.ext h2 (by omega)
theorem mirC_inj (a b : Cl) (h : mirC a = mirC b) : a = b := by
  unfold mirC at h
  injection h with h1 h2
  exact Prod.ext (by omega) h2
theorem fit_rot {m : List Cl} (hn : m.Nodup) (h0 : m ≠ []) : fitL ((fitL m).map rotC) = fitL (m.map rotC) := by
  refine fit_same (mapN_nodup rotC_inj (fitL_nodup hn)) (mapN_nodup rotC_inj hn) (fun e => ?_) (-(lowY m)) (lowX m) fun x y => ?_
  · have := congrArg List.length e
    rw [List.length_map, fitL_len] at this
    exact h0 (List.length_eq_zero_iff.1 this)
  · rw [List.mem_map, List.mem_map]
    unfold rotC fitL
    constructor
    · rintro ⟨c, hc, e⟩
      injection e with e1 e2
      exact ⟨(c.1 - lowX m, c.2 - lowY m), fitTo_mem.2 ⟨c, hc, rfl⟩, Prod.ext (by dsimp only; omega) (by dsimp only; omega)⟩
    · rintro ⟨c, hc, e⟩
      obtain ⟨d, hd, rfl⟩ := fitTo_mem.1 hc
      unfold moveC at e
      injection e with e1 e2
      dsimp only at e1 e2
      exact ⟨d, hd, Prod.ext (by dsimp only; omega) (by dsimp only; omega)⟩
theorem fit_mir {m : List Cl} (hn : m.Nodup) (h0 : m ≠ []) : fitL ((fitL m).map mirC) = fitL (m.map mirC) := by
  refine fit_same (mapN_nodup mirC_inj (fitL_nodup hn)) (mapN_nodup mirC_inj hn) (fun e => ?_) (-(lowX m)) (lowY m) fun x y => ?_
  · have := congrArg List.length e
    rw [List.length_map, fitL_len] at this
    exact h0 (List.length_eq_zero_iff.1 this)
  · rw [List.mem_map, List.mem_map]
    unfold mirC fitL
    constructor
    · rintro ⟨c, hc, e⟩
      injection e with e1 e2
      exact ⟨(c.1 - lowX m, c.2 - lowY m), fitTo_mem.2 ⟨c, hc, rfl⟩, Prod.ext (by dsimp only; omega) (by dsimp only; omega)⟩
    · rintro ⟨c, hc, e⟩
      obtain ⟨d, hd, rfl⟩ := fitTo_mem.1 hc
      unfold moveC at e
      injection e with e1 e2
      dsimp only at e1 e2
      exact ⟨d, hd, Prod.ext (by dsimp only; omega) (by dsimp only; omega)⟩
/-- the k-th turn -/
def turnL (l : List Cl) (k : Nat) : List Cl := fitL (l.map (turnC k))
/-- the turns as the reference comes to them -/
def nowL (l : List Cl) : Nat → List Cl
  | 0 => l
  | k + 1 => fitL ((nowL l k).map (if k = 4 then mirC else rotC))
def numT (k : Nat) : Nat := if k < 4 then (k + 1) % 4 else k
theorem rot4 (c : Cl) : rotC (rotC (rotC (rotC c))) = c := by
  unfold rotC; exact Prod.ext (by dsimp only; omega) (by dsimp only; omega)
theorem turn_inj (k : Nat) (a b : Cl) (h : turnC k a = turnC k b) : a = b := by
  unfold turnC at h
  have hr : ∀ (n : Nat) (a b : Cl), Nat.repeat rotC n a = Nat.repeat rotC n b → a = b := by
    intro n
    induction n with
    | zero => intro a b h; exact h
    | succ n ih => intro a b h; exact ih _ _ (rotC_inj _ _ h)
  have := hr _ _ _ h
  split at this
  · exact mirC_inj _ _ this
  · exact this
theorem turn_nodup {l : List Cl} (h : l.Nodup) (k : Nat) : (l.map (turnC k)).Nodup := mapN_nodup (turn_inj k) h
theorem map_ne {l : List Cl} (h : l ≠ []) (f : Cl → Cl) : l.map f ≠ [] := by simpa using h
theorem nowL_turn {l : List Cl} (hn : l.Nodup) (h0 : l ≠ []) : ∀ k < 8, nowL l (k + 1) = turnL l (numT k) := by
  have hz : turnL l 0 = fitL l := by
    unfold turnL; congr 1
    have : l.map (turnC 0) = l.map id := List.map_congr_left fun c _ => rfl
    rw [this, List.map_id]
  have stepR : ∀ j j', (∀ c, rotC (turnC j c) = turnC j' c) → fitL ((turnL l j).map rotC) = turnL l j' := by
    intro j j' h
    unfold turnL
    rw [fit_rot (turn_nodup hn j) (map_ne h0 _), List.map_map]
    congr 1
    exact List.map_congr_left fun c _ => h c
  have h1 : nowL l 1 = turnL l 1 := by
    show fitL (l.map rotC) = _
    unfold turnL; congr 1
  have h2 : nowL l 2 = turnL l 2 := by
    show fitL ((nowL l 1).map rotC) = _
    rw [h1]; exact stepR 1 2 fun c => rfl
  have h3 : nowL l 3 = turnL l 3 := by
    show fitL ((nowL l 2).map rotC) = _
    rw [h2]; exact stepR 2 3 fun c => rfl
  have h4 : nowL l 4 = turnL l 0 := by
    show fitL ((nowL l 3).map rotC) = _
    rw [h3]; exact stepR 3 0 fun c => rot4 c
  have h5 : nowL l 5 = turnL l 4 := by
    show fitL ((nowL l 4).map mirC) = _
    rw [h4, hz, fit_mir hn h0]
    unfold turnL; congr 1
  have h6 : nowL l 6 = turnL l 5 := by
    show fitL ((nowL l 5).map rotC) = _
    rw [h5]; exact stepR 4 5 fun c => rfl
  have h7 : nowL l 7 = turnL l 6 := by
    show fitL ((nowL l 6).map rotC) = _
    rw [h6]; exact stepR 5 6 fun c => rfl
  have h8 : nowL l 8 = turnL l 7 := by
    show fitL ((nowL l 7).map rotC) = _
    rw [h7]; exact stepR 6 7 fun c => rfl
  intro k hk
  rcases k with _ | _ | _ | _ | _ | _ | _ | _ | k
  · exact h1
  · exact h2
  · exact h3
  · exact h4
  · exact h5
  · exact h6
  · exact h7
  · exact h8
  · omega

/-! ### lists in lexicographic order -/
def lexB : List Int → List Int → Bool
  | a :: xs, b :: ys => decide (a < b) || (a == b && lexB xs ys)
  | _, _ => false
theorem lexB_irr : ∀ a : List Int, lexB a a = false := by
  intro a
  induction a with
  | nil => rfl
  | cons x a ih => simp [lexB, ih]
theorem lexB_tr : ∀ a b c : List Int, lexB a b = true → lexB b c = true → lexB a c = true := by
  intro a
  induction a with
  | nil => intro b c h; simp [lexB] at h
  | cons x a ih =>
    intro b c h1 h2
    cases b with
    | nil => simp [lexB] at h1
    | cons y b =>
      cases c with
      | nil => simp [lexB] at h2
      | cons z c =>
        simp only [lexB, Bool.or_eq_true, Bool.and_eq_true, decide_eq_true_eq, beq_iff_eq] at *
        rcases h1 with h1 | ⟨rfl, h1⟩
        · rcases h2 with h2 | ⟨rfl, h2⟩
          · exact .inl (by omega)
          · exact .inl h1
        · rcases h2 with h2 | ⟨rfl, h2⟩
          · exact .inl h2
          · exact .inr ⟨rfl, ih _ _ h1 h2⟩
theorem lexB_tot : ∀ a b : List Int, a.length = b.length → lexB a b = false → a ≠ b → lexB b a = true := by
  intro a
  induction a with
  | nil =>
    intro b h _ hne
    cases b with
    | nil => exact absurd rfl hne
    | cons y b => simp at h
  | cons x a ih =>
    intro b h h1 hne
    cases b with
    | nil => simp at h
    | cons y b =>
      have hl : a.length = b.length := by simpa using h
      simp only [lexB, Bool.or_eq_false_iff, Bool.and_eq_false_iff, decide_eq_false_iff_not, beq_eq_false_iff_ne] at h1
      simp only [lexB, Bool.or_eq_true, Bool.and_eq_true, decide_eq_true_eq, beq_iff_eq]
      by_cases hxy : x = y
      · subst hxy
        refine .inr ⟨rfl, ih b hl ?_ (fun e => hne (by rw [e]))⟩
        rcases h1.2 with h | h
        · exact absurd rfl h
        · exact h
      · exact .inl (by omega)
/-! ### the sorted list of turns -/
def ltT (a b : List Cl) : Prop := lexB (indicesL a) (indicesL b) = true
theorem ltT_irr (a : List Cl) : ¬ ltT a a := by unfold ltT; rw [lexB_irr]; simp
theorem ltT_tr (a b c : List Cl) (h1 : ltT a b) (h2 : ltT b c) : ltT a c := lexB_tr _ _ _ h1 h2
theorem indices_inj : ∀ {a b : List Cl}, (∀ c ∈ a, cellOk c.1 c.2 = true) → (∀ c ∈ b, cellOk c.1 c.2 = true) → indicesL a = indicesL b → a = b := by
  intro a b ha hb h
  have h1 := map_of_idx ha
  have h2 := map_of_idx hb
  have e : (a.map idxN) = b.map idxN := by
    have ea : indicesL a = (a.map idxN).map (fun (n : Nat) => (n : Int)) := by
      unfold indicesL; rw [List.map_map]; exact List.map_congr_left fun c hc => idxI_ok (ha c hc)
    have eb : indicesL b = (b.map idxN).map (fun (n : Nat) => (n : Int)) := by
      unfold indicesL; rw [List.map_map]; exact List.map_congr_left fun c hc => idxI_ok (hb c hc)
    rw [ea, eb] at h
    exact (List.map_inj_right (fun x y e => by omega)).1 h
  rw [← h1, ← h2, e]
/-- Cells that all lie in the grid. -/
def Box (l : List Cl) : Prop := ∀ c ∈ l, cellOk c.1 c.2 = true
def insT : List (List Cl) → List Cl → List (List Cl)
  | [], x => [x]
  | y :: ys, x => if lexB (indicesL y) (indicesL x) then y :: insT ys x else if indicesL y == indicesL x then y :: ys else x :: y :: ys
def turnsTo (l : List Cl) : Nat → List (List Cl)
  | 0 => []
  | k + 1 => insT (turnsTo l k) (turnL l k)
def turnsL (l : List Cl) : List (List Cl) := turnsTo l 8
/-- a sorted list of turns of n cells -/
structure SrtT (n : Nat) (out : List (List Cl)) : Prop where
  srt : out.Pairwise ltT
  len : ∀ x ∈ out, x.length = n
  box : ∀ x ∈ out, Box x
theorem SrtT.nil (n : Nat) : SrtT n [] := ⟨by simp, by simp, by simp⟩
theorem SrtT.tail {n : Nat} {y : List Cl} {ys : List (List Cl)} (h : SrtT n (y :: ys)) : SrtT n ys := ⟨(List.pairwise_cons.1 h.srt).2, fun x hx => h.len x (by simp [hx]), fun x hx => h.box x (by simp [hx])⟩
theorem insT_mem {n : Nat} {x : List Cl} (hx : x.length = n) (hb : Box x) : ∀ {out : List (List Cl)}, SrtT n out → ∀ y, y ∈ insT out x ↔ y = x ∨ y ∈ out := by
  intro out
  induction out with
  | nil => intro _ y; simp [insT]
  | cons z zs ih =>
    intro h y
    rw [insT]
    split
    · rw [List.mem_cons, ih h.tail, List.mem_cons]
      constructor
      · rintro (h | h | h)
        · exact .inr (.inl h)
        · exact .inl h
        · exact .inr (.inr h)
      · rintro (h | h | h)
        · exact .inr (.inl h)
        · exact .inl h
        · exact .inr (.inr h)
    · split
      · rename_i _ he
        have e : z = x := indices_inj (h.box z (by simp)) hb (by simpa using he)
        subst e
        constructor
        · intro h; exact .inr h
        · rintro (h | h)
          · subst h; simp
          · exact h
      · simp
theorem insT_srt {n : Nat} {x : List Cl} (hx : x.length = n) (hb : Box x) : ∀ {out : List (List Cl)}, SrtT n out → SrtT n (insT out x) := by
  intro out h
  refine ⟨?_, fun y hy => ?_, fun y hy => ?_⟩
  · induction out with
    | nil => simp [insT]
    | cons z zs ih =>
      have hp := List.pairwise_cons.1 h.srt
      rw [insT]
      split
      · rename_i h1
        refine List.pairwise_cons.2 ⟨fun y hy => ?_, ih h.tail⟩
        rcases (insT_mem hx hb h.tail y).1 hy with e | e
        · subst e; exact h1
        · exact hp.1 y e
      · rename_i h1
        split
        · exact h.srt
        · rename_i h2
          have h3 : ltT x z := lexB_tot _ _ (by rw [indicesL_len, indicesL_len, hx, h.len z (by simp)]) (by simpa using h1) (by simpa using h2)
          refine List.pairwise_cons.2 ⟨fun y hy => ?_, h.srt⟩
          rcases List.mem_cons.1 hy with e | e
          · subst e; exact h3
          · exact ltT_tr _ _ _ h3 (hp.1 y e)
  · rcases (insT_mem hx hb h y).1 hy with e | e
    · rw [e, hx]
    · exact h.len y e
  · rcases (insT_mem hx hb h y).1 hy with e | e
    · rw [e]; exact hb
    · exact h.box y e
/-- a turn of cells in the grid lies near, and is no wider than the grid -/
theorem turn_near {l : List Cl} (h : Box l) (k : Nat) : Near (l.map (turnC k)) ∧ (∀ d ∈ l.map (turnC k), ∀ e ∈ l.map (turnC k), d.1 - e.1 ≤ 7 ∧ d.2 - e.2 ≤ 7) := by
  have key : ∀ m ≤ 3, ∀ (f : Cl → Cl), (f = id ∨ f = mirC) → Near (l.map fun c => Nat.repeat rotC m (f c)) ∧ (∀ d ∈ l.map (fun c => Nat.repeat rotC m (f c)), ∀ e ∈ l.map (fun c => Nat.repeat rotC m (f c)), d.1 - e.1 ≤ 7 ∧ d.2 - e.2 ≤ 7) := by
    intro m hm f hf
    have hc : ∀ c ∈ l, (0 ≤ c.1 ∧ c.1 ≤ 7) ∧ 0 ≤ c.2 ∧ c.2 ≤ 7 := fun c hc => cellOk_iff.1 (h c hc)
    constructor
    · intro d hd
      obtain ⟨c, hcm, rfl⟩ := List.mem_map.1 hd
      have := hc c hcm
      rcases hf with rfl | rfl <;> (rcases m with _ | _ | _ | _ | m) <;> simp [Nat.repeat, rotC, mirC] <;> omega
    · intro d hd e he
      obtain ⟨c, hcm, rfl⟩ := List.mem_map.1 hd
      obtain ⟨c2, hcm2, rfl⟩ := List.mem_map.1 he
      have h1 := hc c hcm
      have h2 := hc c2 hcm2
      rcases hf with rfl | rfl <;> (rcases m with _ | _ | _ | _ | m) <;> simp [Nat.repeat, rotC, mirC] <;> omega
  have hk := key (k % 4) (by omega) (if 4 ≤ k then mirC else id) (by split <;> simp)
  have e : l.map (turnC k) = l.map fun c => Nat.repeat rotC (k % 4) ((if 4 ≤ k then mirC else id) c) := List.map_congr_left fun c _ => by
    unfold turnC; split <;> rfl
  rw [e]; exact hk
theorem fit_box {m : List Cl} (h : ∀ d ∈ m, ∀ e ∈ m, d.1 - e.1 ≤ 7 ∧ d.2 - e.2 ≤ 7) : Box (fitL m) := by
  intro c hc
  obtain ⟨d, hd, rfl⟩ := fitTo_mem.1 hc
  have hl := low_le hd
  have h0 : m ≠ [] := by rintro rfl; simp at hd
  obtain ⟨⟨e, he, ee⟩, f, hf, ef⟩ := low_at h0
  have h1 := (h d hd e he).1
  have h2 := (h d hd f hf).2
  rw [cellOk_iff]
  unfold moveC; dsimp only; omega
theorem turnL_box {l : List Cl} (h : Box l) (k : Nat) : Box (turnL l k) := fit_box (turn_near h k).2
theorem turnL_len (l : List Cl) (k : Nat) : (turnL l k).length = l.length := by unfold turnL; rw [fitL_len, List.length_map]
theorem turnsTo_srt {l : List Cl} (h : Box l) : ∀ k, SrtT l.length (turnsTo l k)
  | 0 => .nil _
  | k + 1 => insT_srt (turnL_len l k) (turnL_box h k) (turnsTo_srt h k)
theorem turnsTo_mem {l : List Cl} (h : Box l) : ∀ (k : Nat) (y : List Cl), y ∈ turnsTo l k ↔ ∃ j < k, y = turnL l j := by
  intro k
  induction k with
  | zero => intro y; simp [turnsTo]
  | succ k ih =>
    intro y
    rw [turnsTo, insT_mem (turnL_len l k) (turnL_box h k) (turnsTo_srt h k), ih]
    constructor
    · rintro (h | ⟨j, hj, h⟩)
      · exact ⟨k, by omega, h⟩
      · exact ⟨j, by omega, h⟩
    · rintro ⟨j, hj, h⟩
      by_cases hjk : j = k
      · subst hjk; exact .inl h
      · exact .inr ⟨j, by omega, h⟩
theorem srtT_eq {n m : Nat} {a b : List (List Cl)} (ha : SrtT n a) (hb : SrtT m b) (h : ∀ y, y ∈ a ↔ y ∈ b) : a = b := sortedG_eq ltT_irr ltT_tr ha.srt hb.srt h
/-- the turns as the reference gathers them are the same list -/
def turnsS (l : List Cl) : Nat → List (List Cl)
  | 0 => []
  | k + 1 => insT (turnsS l k) (nowL l (k + 1))
theorem turnsS_srt {l : List Cl} (h : Box l) (hn : l.Nodup) (h0 : l ≠ []) : ∀ k ≤ 8, SrtT l.length (turnsS l k) ∧ ∀ y, y ∈ turnsS l k ↔ ∃ j < k, y = turnL l (numT j) := by
  intro k
  induction k with
  | zero => intro _; exact ⟨.nil _, by simp [turnsS]⟩
  | succ k ih =>
    intro hk
    obtain ⟨h1, h2⟩ := ih (by omega)
    have e := nowL_turn hn h0 k (by omega)
    have h3 := turnL_len l (numT k)
    have h4 := turnL_box h (numT k)
    rw [← e] at h3 h4
    refine ⟨insT_srt h3 h4 h1, fun y => ?_⟩
    rw [turnsS, insT_mem h3 h4 h1, h2]
    constructor
    · rintro (h | ⟨j, hj, h⟩)
      · exact ⟨k, by omega, by rw [h, e]⟩
      · exact ⟨j, by omega, h⟩
    · rintro ⟨j, hj, h⟩
      by_cases hjk : j = k
      · subst hjk; exact .inl (by rw [h, e])
      · exact .inr ⟨j, by omega, h⟩
theorem turnsS_eq {l : List Cl} (h : Box l) (hn : l.Nodup) (h0 : l ≠ []) : turnsS l 8 = turnsL l := by
  obtain ⟨h1, h2⟩ := turnsS_srt h hn h0 8 (Nat.le_refl _)
  refine srtT_eq h1 (turnsTo_srt h 8) fun y => ?_
  show _ ↔ y ∈ turnsTo l 8
  rw [h2, turnsTo_mem h]
  constructor
  · rintro ⟨j, hj, h⟩
    exact ⟨numT j, by unfold numT; split <;> omega, h⟩
  · rintro ⟨j, hj, h⟩
    by_cases h4 : 4 ≤ j
    · exact ⟨j, hj, by rw [h]; congr 1; unfold numT; rw [if_neg (by omega)]⟩
    · by_cases hz : j = 0
      · subst hz; exact ⟨3, by omega, h⟩
      · exact ⟨j - 1, by omega, by rw [h]; congr 1; unfold numT; rw [if_pos (by omega)]; omega⟩
theorem ins_at {n p : Nat} {out : List (List Cl)} {own : List Cl} (h : SrtT n out) (hx : own.length = n) (hb : Box own) (h1 : ∀ j y, out[j]? = some y → j < p → ltT y own) (h2 : ∀ j y, out[j]? = some y → p ≤ j → ltT own y) :
    out.take p ++ own :: out.drop p = insT out own := by
  have hlo : ∀ y ∈ out.take p, ltT y own := fun y hy => by
    obtain ⟨j, hj, rfl⟩ := List.getElem_of_mem hy
    rw [List.length_take] at hj
    rw [List.getElem_take]
    exact h1 j _ (List.getElem?_eq_getElem (by omega)) (by omega)
  have hhi : ∀ y ∈ out.drop p, ltT own y := fun y hy => by
    obtain ⟨j, hj, rfl⟩ := List.getElem_of_mem hy
    rw [List.length_drop] at hj
    rw [List.getElem_drop]
    exact h2 (p + j) _ (List.getElem?_eq_getElem (by omega)) (by omega)
  have hm : ∀ y, y ∈ out.take p ++ own :: out.drop p ↔ y = own ∨ y ∈ out := fun y => by
    conv => rhs; rw [← List.take_append_drop p out]
    simp only [List.mem_append, List.mem_cons]
    constructor
    · rintro (h | h | h)
      · exact .inr (.inl h)
      · exact .inl h
      · exact .inr (.inr h)
    · rintro (h | h | h)
      · exact .inr (.inl h)
      · exact .inl h
      · exact .inr (.inr h)
  have hs := h.srt
  rw [← List.take_append_drop p out, List.pairwise_append] at hs
  refine srtT_eq (n := n) ⟨?_, fun y hy => ?_, fun y hy => ?_⟩ (insT_srt hx hb h) fun y => by rw [hm, insT_mem hx hb h]
  · rw [List.pairwise_append, List.pairwise_cons]
    refine ⟨hs.1, ⟨hhi, hs.2.1⟩, fun a ha b hb => ?_⟩
    rcases List.mem_cons.1 hb with e | hb
    · rw [e]; exact hlo a ha
    · exact hs.2.2 a ha b hb
  · rcases (hm y).1 hy with e | e
    · rw [e, hx]
    · exact h.len y e
  · rcases (hm y).1 hy with e | e
    · rw [e]; exact hb
    · exact h.box y e
theorem ltT_tot {n : Nat} {a b : List Cl} (ha : a.length = n) (hb : b.length = n) (h : lexB (indicesL a) (indicesL b) = false) (hne : indicesL a ≠ indicesL b) : ltT b a := lexB_tot _ _ (by rw [indicesL_len, indicesL_len, ha, hb]) h hne
theorem ins_i {n p : Nat} {out : List (List Cl)} {own : List Cl} (h : SrtT n out) (hx : own.length = n) (hb : Box own) (hpl : p ≤ out.length) (h2 : ∀ j y, out[j]? = some y → p ≤ j → ltT own y) (h1 : ∀ y, 0 < p → out[p - 1]? = some y → lexB (indicesL own) (indicesL y) = false ∧ indicesL own ≠ indicesL y) :
    out.take p ++ own :: out.drop p = insT out own := by
  refine ins_at h hx hb (fun j y hj hjp => ?_) h2
  obtain ⟨hjl, rfl⟩ := List.getElem?_eq_some_iff.1 hj
  have hz : out[p - 1]? = some out[p - 1] := List.getElem?_eq_getElem (by omega)
  obtain ⟨a, b⟩ := h1 _ (by omega) hz
  have hlt := ltT_tot hx (h.len _ (List.mem_of_getElem? hz)) a b
  by_cases e : j = p - 1
  · subst e; exact hlt
  · have := h.srt
    rw [List.pairwise_iff_getElem] at this
    exact ltT_tr _ _ _ (this j (p - 1) (by omega) (by omega) (by omega)) hlt
theorem ins_s {n p : Nat} {out : List (List Cl)} {own : List Cl} (h : SrtT n out) (hx : own.length = n) (hb : Box own) (h1 : ∀ j y, out[j]? = some y → j < p → ltT y own) (h2 : ∀ y, out[p]? = some y → lexB (indicesL y) (indicesL own) = false ∧ indicesL y ≠ indicesL own) :
    out.take p ++ own :: out.drop p = insT out own := by
  refine ins_at h hx hb h1 (fun j y hj hjp => ?_)
  obtain ⟨hjl, rfl⟩ := List.getElem?_eq_some_iff.1 hj
  have hz : out[p]? = some out[p] := List.getElem?_eq_getElem (by omega)
  obtain ⟨a, b⟩ := h2 _ hz
  have hlt := ltT_tot (h.len _ (List.mem_of_getElem? hz)) hx a b
  by_cases e : j = p
  · subst e; exact hlt
  · have := h.srt
    rw [List.pairwise_iff_getElem] at this
    exact ltT_tr _ _ _ hlt (this p j (by omega) (by omega) (by omega))
theorem ins_eq {n : Nat} {out : List (List Cl)} {own y : List Cl} (h : SrtT n out) (hx : own.length = n) (hb : Box own) (hy : y ∈ out) (he : indicesL own = indicesL y) : insT out own = out := by
  have e : own = y := indices_inj hb (h.box y hy) he
  subst e
  refine srtT_eq (insT_srt hx hb h) h fun z => ?_
  rw [insT_mem hx hb h]
  constructor
  · rintro (h | h)
    · rw [h]; exact hy
    · exact h
  · exact .inr
theorem insT_len (x : List Cl) : ∀ out : List (List Cl), (insT out x).length ≤ out.length + 1 := by
  intro out
  induction out with
  | nil => simp [insT]
  | cons y ys ih =>
    rw [insT]
    split
    · simp only [List.length_cons]; omega
    · split <;> simp
theorem turnsTo_len (l : List Cl) : ∀ k, (turnsTo l k).length ≤ k
  | 0 => by simp [turnsTo]
  | k + 1 => by have h1 := insT_len (turnL l k) (turnsTo l k); have h2 := turnsTo_len l k; rw [turnsTo]; omega
theorem turnsS_len (l : List Cl) : ∀ k, (turnsS l k).length ≤ k
  | 0 => by simp [turnsS]
  | k + 1 => by have h1 := insT_len (nowL l (k + 1)) (turnsS l k); have h2 := turnsS_len l k; rw [turnsS]; omega
end Go.Proofs.Ytdcjhfmkkcakhaa

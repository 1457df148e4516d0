/-
  The walk of the law FnProofs: it returns true for all arguments; no condition.
-/
import Derived.Test.YtdcjhfmkkcakhaaPrD
import Derived.Test.YtdcjhfmkkcakhaaProP
import Derived.Test.YtdcjhfmkkcakhaaAt
import Derived.BigQuiet
import Derived.StillTailTactics
import Derived.Deep.RegionWith
import Derived.Deep.CutRange
import Derived.Deep.RegionHeld3
namespace Go.Proofs.Ytdcjhfmkkcakhaa
open Go.ChangeShapes Go.WideShapes Go.ChangeAt Go.RowKit Go.Deep
set_option linter.unusedVariables false

theorem takeW_ {P : Program} {md : Region.Mode} {ops : Array Oper} {Q : Exit → Act → World → Prop} {S : World → Prop} {i : Nat} {oi : Oper} {d : Option Tmp} {v : Value} {fuel : Nat} {listed : Array Bool} {a : Act} {w : World} (hi : ops[i]? = some oi) (hd : oi.dst = d)
    (hs : Region.noSelect ops = true) (hf : Region.free md ops listed i = true) (hr : (Region.ready md ops listed).contains i = true)
    (hQ : ∀ c a w, Q (.panic c) (a.put d v) w → Q (.panic c) a w) (hy : YieldsIf P ops S oi v a) (hS : S w)
    (h : wpAnyH P md ops Q S fuel (listed.setIfInBounds i true) (a.put d v) w) : wpAnyH P md ops Q S (fuel + 1) listed a w := by
  subst hd; exact wpAnyH_take hi hs hf hr hQ hy hS h
theorem lineL_succ (k : Nat) : lineL (k + 1) = lineL k ++ [((k : Int), (0 : Int))] := by simp [lineL, List.range_succ]
theorem lineL_len (k : Nat) : (lineL k).length = k := by simp [lineL]
/-- what lies in memory behind the draws -/
def ProS (w wx : World) (gp gr gq : Nat) (vp vr vq : List Value) (A1 : Option Addr) (l1 : List Int) (A2 : Option Addr) (l2 : List Cl) (A3 : Option Addr) (l3 : List Int) (A5 : Option Addr) (L5 : List Int) (A7 : Option Addr) (LL : List Cl) : Prop :=
  Blk wx gp 26 vp ∧ Blk wx gr 31 vr ∧ Blk wx gq 26 vq ∧ RdI wx A1 l1 ∧ RdC wx A2 l2 ∧ RdI wx A3 l3 ∧ RdI wx A5 L5 ∧ RdC wx A7 LL ∧ Below w.heap.size w wx
section
variable {w wx : World} {gp gr gq : Nat} {vp vr vq : List Value} {A1 : Option Addr} {l1 : List Int} {A2 : Option Addr} {l2 : List Cl} {A3 : Option Addr} {l3 : List Int} {A5 : Option Addr} {L5 : List Int} {A7 : Option Addr} {LL : List Cl}
theorem ProS.bel (h : ProS w wx gp gr gq vp vr vq A1 l1 A2 l2 A3 l3 A5 L5 A7 LL) {wy : World} (hb : Below wx.heap.size wx wy) : ProS w wy gp gr gq vp vr vq A1 l1 A2 l2 A3 l3 A5 L5 A7 LL := by
  obtain ⟨h1, h2, h3, h4, h5, h6, h7, h8, h9⟩ := h
  exact ⟨h1.bel hb, h2.bel hb, h3.bel hb, h4.below hb, h5.below hb, h6.below hb, h7.below hb, h8.below hb, bl_trans h9 hb⟩
theorem ProS.p (h : ProS w wx gp gr gq vp vr vq A1 l1 A2 l2 A3 l3 A5 L5 A7 LL) : Blk wx gp 26 vp := h.1
theorem ProS.r (h : ProS w wx gp gr gq vp vr vq A1 l1 A2 l2 A3 l3 A5 L5 A7 LL) : Blk wx gr 31 vr := h.2.1
theorem ProS.q (h : ProS w wx gp gr gq vp vr vq A1 l1 A2 l2 A3 l3 A5 L5 A7 LL) : Blk wx gq 26 vq := h.2.2.1
theorem ProS.r1 (h : ProS w wx gp gr gq vp vr vq A1 l1 A2 l2 A3 l3 A5 L5 A7 LL) : RdI wx A1 l1 := h.2.2.2.1
theorem ProS.r2 (h : ProS w wx gp gr gq vp vr vq A1 l1 A2 l2 A3 l3 A5 L5 A7 LL) : RdC wx A2 l2 := h.2.2.2.2.1
theorem ProS.r3 (h : ProS w wx gp gr gq vp vr vq A1 l1 A2 l2 A3 l3 A5 L5 A7 LL) : RdI wx A3 l3 := h.2.2.2.2.2.1
theorem ProS.r5 (h : ProS w wx gp gr gq vp vr vq A1 l1 A2 l2 A3 l3 A5 L5 A7 LL) : RdI wx A5 L5 := h.2.2.2.2.2.2.1
theorem ProS.r7 (h : ProS w wx gp gr gq vp vr vq A1 l1 A2 l2 A3 l3 A5 L5 A7 LL) : RdC wx A7 LL := h.2.2.2.2.2.2.2.1
theorem ProS.b (h : ProS w wx gp gr gq vp vr vq A1 l1 A2 l2 A3 l3 A5 L5 A7 LL) : Below w.heap.size w wx := h.2.2.2.2.2.2.2.2
end
set_option maxRecDepth 100000 in
set_option maxHeartbeats 4000000 in
theorem walk_FnProofs (A0 : Option Addr) (c0 : Nat) (l0 : List (Int)) (w : World) (hr0 : RdB w A0 l0) (hl0 : l0.length ≤ maxLen) :
    Calls Try.prog 3 #[.slice A0 l0.length c0] w fun e w' => e = .returned (.bool true) ∧ Below w.heap.size w w' := by
  have hB := Below.refl w.heap.size w
  by_cases hbig : (l0.length : Int) > 1048576
  · have hq : decide ((l0.length : Int) > 1048576) = true := decide_eq_true hbig
    go_enter Try.func3, Try.ntmps3
    go_wp2_with (go_at_call 12; refine (big_any _ _ _ _ hl0).mono ?_; rintro e wn ⟨h1, rfl⟩; rw [hq] at h1; subst h1)
    go_ret
    exact ⟨rfl, hB⟩
  · have hq : decide ((l0.length : Int) > 1048576) = false := decide_eq_false hbig
    have hl : l0.length ≤ 1048576 := by omega
    obtain ⟨k0, hk3, hk⟩ := atB_mod hr0 0 3 (by decide)
    obtain ⟨w00, hw6, hw⟩ := atB_mod hr0 1 6 (by decide)
    obtain ⟨h00, hh4, hh⟩ := atB_mod hr0 2 4 (by decide)
    have hk' : (atB l0 0).tmod 3 = (k0 : Int) := hk
    have hw' : (atB l0 1).tmod 6 = (w00 : Int) := hw
    have hh' : (atB l0 2).tmod 4 = (h00 : Int) := hh
    obtain ⟨K, hK⟩ : ∃ K, K = k0 + 2 := ⟨_, rfl⟩
    obtain ⟨W, hW⟩ : ∃ W, W = w00 + 1 := ⟨_, rfl⟩
    obtain ⟨H, hH⟩ : ∃ H, H = h00 + 1 := ⟨_, rfl⟩
    have eK : (2 : Int) + (k0 : Int) = (K : Int) := by omega
    have eW : (1 : Int) + (w00 : Int) = (W : Int) := by omega
    have eH : (1 : Int) + (h00 : Int) = (H : Int) := by omega
    have hK2 : 2 ≤ K := by omega
    have hK4 : K ≤ 4 := by omega
    have hWH := Lib.hid (show (1 ≤ W ∧ W ≤ 6) ∧ 1 ≤ H ∧ H ≤ 4 by omega)
    have hr0' := Lib.hid hr0
    clear hr0 hbig hk hw hh hK hW hH
    go_enter Try.func3, Try.ntmps3
    go_wp2_with (go_at_call 12; refine (big_any _ _ _ _ hl0).mono ?_; rintro e wn ⟨h1, rfl⟩; rw [hq] at h1; subst h1)
    (refine (DrawPattern_any A0 c0 l0 _ hl hr0'.out).mono ?_; rintro e w1 ⟨a, b, m, A1, c1, l1, rfl, hp, o1, hb1⟩)
    have P := Blk.new w1 26 [.int .i64 a, .int .i64 b, .int .i64 m, .slice A1 l1.length c1]
    have hB1 := bl_alloc (bl_trans hB hb1) (.cells #[.int .i64 a, .int .i64 b, .int .i64 m, .slice A1 l1.length c1] 26)
    have R1 := Lib.hid (o1.below (bl_alloc (Below.refl _ _) (.cells #[.int .i64 a, .int .i64 b, .int .i64 m, .slice A1 l1.length c1] 26)))
    clear o1 hb1
    go_wp2_with fail
    (refine (DrawShape_any A0 c0 l0 _ hl (hr0'.out.below hB1)).mono ?_; rintro e w2 ⟨A2, c2, l2, rfl, h5, o2, hb2⟩)
    replace P := P.bel hb2
    replace R1 := Lib.hid (R1.out.below hb2)
    have R2 := Lib.hid o2
    replace hB1 := bl_trans hB1 hb2
    clear o2 hb2
    go_wp2_with fail
    (refine (DrawRegion_any A0 c0 l0 _ hl (hr0'.out.below hB1)).mono ?_; rintro e w3 ⟨A3, c3, l3, rfl, hok, o3, hb3⟩)
    have hX3 := bl_alloc (bl_trans (Below.refl _ _) hb3) (.cells #[.slice A3 l3.length c3] 31)
    have R3 := Lib.hid (o3.below (bl_alloc (Below.refl _ _) (.cells #[.slice A3 l3.length c3] 31)))
    have RG := Blk.new w3 31 [.slice A3 l3.length c3]
    replace P := P.bel hX3
    replace R1 := Lib.hid (R1.out.below hX3)
    replace R2 := Lib.hid (R2.out.below hX3)
    replace hB1 := bl_trans hB1 hX3
    clear o3 hb3 hX3
    have O5 := Lib.hid (OwC.new_ (B := (w3.alloc (.cells #[.slice A3 l3.length c3] 31)).heap.size) (w := w3.alloc (.cells #[.slice A3 l3.length c3] 31)) (Nat.le_refl _))
    have HB1 := Lib.hid hB1
    have hl1 : l1.length ≤ 1048576 := by obtain ⟨a1, a2, a3, a4, a5, a6, a7⟩ := patOk_true hp; have : a * b ≤ 4 * 4 := Int.mul_le_mul a2 a4 (by omega) (by omega); omega
    have hl3 : l3.length ≤ 1048576 := by have := (regOk_iff.1 hok).1; omega
    have HP := Lib.hid P
    have HG := Lib.hid RG
    have hws : (w3.alloc (.cells #[.slice A3 l3.length c3] 31)).heap.size = w3.heap.size + 1 := by simp
    rw [hws] at O5
    clear P RG hB1
    go_wp2_with (go_at_call 16; refine (at_lit A0 c0 l0 0 0 rfl _ (by omega) hl (hr0'.out.below HB1.out)).mono ?_; rintro e wn ⟨rfl, rfl⟩)
    obtain ⟨W0, hW0⟩ : ∃ W0, W0 = w3.alloc (.cells #[.slice A3 l3.length c3] 31) := ⟨_, rfl⟩
    rw [← hW0] at O5 HB1 HP HG R1 R2 R3 hws ⊢
    obtain ⟨B0, hB0⟩ : ∃ B0, B0 = w3.heap.size + 1 := ⟨_, rfl⟩
    rw [← hB0] at O5 hws
    clear hW0
    have Hws := Lib.hid hws
    have HB0 := Lib.hid hB0
    clear hws
    rw [← hB0]
    clear hB0
    have HPw := Lib.hid (HP.out.alloc (.cells #[] 35))
    have HGw := Lib.hid (HG.out.alloc (.cells #[] 35))
    obtain ⟨gp, hgp⟩ : ∃ gp, gp = w1.heap.size := ⟨_, rfl⟩
    obtain ⟨gr, hgr⟩ : ∃ gr, gr = w3.heap.size := ⟨_, rfl⟩
    rw [← hgp] at HPw ⊢
    rw [← hgr] at HGw ⊢
    have hgpB : gp < B0 := by rw [hgp, ← Hws.out]; exact HP.out.lt
    have hgrB : gr < B0 := by rw [hgr, ← Hws.out]; exact HG.out.lt
    clear hgp hgr HP HG
    have hst : Hid (Below B0 W0 (W0.alloc (.cells #[] 35))) := Lib.hid (by rw [← Hws.out]; exact bl_alloc (Below.refl _ _) (.cells #[] 35))
    have hKl : K ≤ 1048576 := by omega
    go_loopw [7, 8] (fun v i wr => ∃ j : Nat, j ≤ K ∧ i = .int .i64 j ∧ OwC B0 wr v (lineL j) ∧ Hid (Blk wr gp 26 [.int .i64 a, .int .i64 b, .int .i64 m, .slice A1 l1.length c1]) ∧ Hid (Blk wr gr 31 [.slice A3 l3.length c3]) ∧ Hid (Below B0 W0 wr) ∧ B0 ≤ wr.heap.size) (fun _ i _ => K - (intOf i).toNat)
    case atStart => exact ⟨0, by omega, rfl, O5.out, HPw, HGw, hst, by rw [← Hws.out]; simp⟩
    case round =>
      obtain ⟨j, hj, rfl, o1, HP, HG, HBr, hBs⟩ := hrel
      clear hst HPw HGw O5
      by_cases hjK : j < K
      · have HO1 := Lib.hid o1
        have g1 : I64 (j : Int) := ⟨by omega, by omega⟩
        have g2 : I64 0 := ⟨by omega, by omega⟩
        have hll : (lineL j).length ≤ 1048576 := by rw [lineL_len]; omega
        have HL1 := Lib.hid (lineL_succ j)
        clear o1
        go_wp2_with (at_builtin; refine wpList_atC rfl (.tmp 33) (.tmp 36) rfl B0 u7 (lineL j) (j : Int) 0 rfl rfl HO1.out hBs hll g1 g2 ?_; intro v' w9 p1 b1 gr1 at1 sz1)
        have P1 := Lib.hid p1
        replace HP := Lib.hid (HP.out.below (b1 _ (Below.refl _ _)) hgpB)
        replace HG := Lib.hid (HG.out.below (b1 _ (Below.refl _ _)) hgrB)
        replace HBr := Lib.hid (b1 _ HBr.out)
        have hBs9 : B0 ≤ w9.heap.size := by omega
        clear p1 b1 gr1 at1 sz1
        go_roundw
        case rel => exact ⟨j + 1, by omega, by go_num, by rw [HL1.out]; exact P1.out, HP, HG, HBr, hBs9⟩
        case measure => simp [intOf]; omega
      · obtain rfl : j = K := by omega
        obtain ⟨⟨A7, c7, rfl⟩, _⟩ := id o1
        have HK : j = j := rfl
        obtain ⟨LL, hLL⟩ : ∃ LL, LL = lineL j := ⟨_, rfl⟩
        rw [← hLL] at o1 ⊢
        have hLLl : LL.length = j := by rw [hLL]; exact lineL_len j
        rw [hLLl]
        have HLL := Lib.hid hLLl.symm
        have HLe := Lib.hid hLL
        have hsK : stripeK (j : Int) = (j : Int) := by unfold stripeK; rw [inB_true.2 ⟨by omega, by omega⟩]; rfl
        have HsK := Lib.hid hsK
        have R7 := Lib.hid o1.rd
        have hW0 : Below W0.heap.size W0 wr := by rw [Hws.out]; exact HBr.out
        have R1a := Lib.hid (R1.out.below hW0)
        have R2a := Lib.hid (R2.out.below hW0)
        have R3a := Lib.hid (R3.out.below hW0)
        have HBa := Lib.hid (bl_trans HB1.out hW0)
        have HLk := Lib.hid hjK
        clear o1 hLL hLLl hsK hW0 R1 R2 R3 HB1 HK hjK
        obtain ⟨K, hKj⟩ : ∃ K, K = j := ⟨_, rfl⟩
        rw [← hKj] at HLL HLe HsK eK hK2 hK4 hKl ⊢
        clear hKj
        go_wp2_with fail
        (refine (StripePattern_i (K : Int) _).mono ?_; rintro e w5 ⟨v5, rfl, o5, hb5⟩; obtain ⟨⟨A5, c5, rfl⟩, _⟩ := id o5; rw [HsK.out])
        obtain ⟨L5, hL5⟩ : ∃ L5, L5 = stripe (K : Int) := ⟨_, rfl⟩
        rw [← hL5] at o5 ⊢
        have hl5 : L5.length ≤ 1048576 := by rw [hL5]; have := stripe_len (K : Int); omega
        have Hnq := Lib.hid (show neutR (K : Int) (K : Int) (K : Int) L5 LL = true by rw [hL5, HLe.out]; exact stripe_neutral hK2 hK4)
        have Hpq := Lib.hid (show patOk (K : Int) (K : Int) (K : Int) L5 = true by have := Hnq.out; simp only [neutR, Bool.and_eq_true] at this; exact this.1.1)
        have Hlong := Lib.hid (fun h => stripe_long (w := W) (h := H) hK2 hK4 hWH.out.1.1 hWH.out.1.2 hWH.out.2.1 hWH.out.2.2 h)
        rw [← hL5, ← HLe.out] at Hlong
        have hal := bl_alloc hb5 (.cells #[.int .i64 (K : Int), .int .i64 (K : Int), .int .i64 (K : Int), .slice A5 L5.length c5] 26)
        have HS : Hid (ProS w (w5.alloc (.cells #[.int .i64 (K : Int), .int .i64 (K : Int), .int .i64 (K : Int), .slice A5 L5.length c5] 26)) gp gr w5.heap.size [.int .i64 a, .int .i64 b, .int .i64 m, .slice A1 l1.length c1] [.slice A3 l3.length c3] [.int .i64 (K : Int), .int .i64 (K : Int), .int .i64 (K : Int), .slice A5 L5.length c5] A1 l1 A2 l2 A3 l3 A5 L5 A7 LL) := Lib.hid
          ⟨HP.out.bel hal, HG.out.bel hal, Blk.new w5 _ _, R1a.out.below hal, R2a.out.below hal, R3a.out.below hal, o5.rd.below (bl_alloc (Below.refl _ _) _), R7.out.below hal, bl_trans HBa.out hal⟩
        have hl2 : l2.length ≤ 1048576 := by omega
        clear hal o5 hb5 hL5 HP HG HBr HBa R1a R2a R3a R7 hgpB hgrB
        have pc := HS.out.p.c4
        have rc := HS.out.r.c1
        have qc := HS.out.q.c4
        go_upto_region 13 with fail
        go_cut [77] from 40 to 77 (fun s77 wx => s77 = .bool false ∧ Hid (ProS w wx gp gr w5.heap.size [.int .i64 a, .int .i64 b, .int .i64 m, .slice A1 l1.length c1] [.slice A3 l3.length c3] [.int .i64 (K : Int), .int .i64 (K : Int), .int .i64 (K : Int), .slice A5 L5.length c5] A1 l1 A2 l2 A3 l3 A5 L5 A7 LL))
        case first =>
          cases hpr : proofR a b m l1 l3 l2
          · have Hpr := Lib.hid hpr
            clear hpr
            go_wp2_with (first | (go_at_call 18; with_reducible refine (PatternOk_i a b m A1 c1 l1 _ hl1 HS.out.r1).mono ?_; rintro e v1 ⟨rfl, hv1⟩; rw [hp]; replace HS := Lib.hid (HS.out.bel hv1); have pc := HS.out.p.c4; have rc := HS.out.r.c1; have qc := HS.out.q.c4; clear hv1) | (go_at_call 18; with_reducible refine (PatternOk_i (K : Int) (K : Int) (K : Int) A5 c5 L5 _ hl5 HS.out.r5).mono ?_; rintro e v2 ⟨rfl, hv2⟩; rw [Hpq.out]; replace HS := Lib.hid (HS.out.bel hv2); have pc := HS.out.p.c4; have rc := HS.out.r.c1; have qc := HS.out.q.c4; clear hv2) | (go_at_call 19; with_reducible refine (IsNeutral_i (K : Int) (K : Int) (K : Int) A5 c5 L5 A7 K c7 LL _ hl5 HS.out.r5 HLL.out hKl HS.out.r7).mono ?_; rintro e v3 ⟨rfl, hv3⟩; rw [Hnq.out]; replace HS := Lib.hid (HS.out.bel hv3); have pc := HS.out.p.c4; have rc := HS.out.r.c1; have qc := HS.out.q.c4; clear hv3) | (go_at_call 20; with_reducible refine (IsProof_i a b m A1 c1 l1 A3 c3 l3 A2 l2.length c2 l2 _ hl1 HS.out.r1 hl3 HS.out.r3 rfl hl2 HS.out.r2).mono ?_; rintro e v4 ⟨rfl, hv4⟩; rw [Hpr.out]; replace HS := Lib.hid (HS.out.bel hv4); have pc := HS.out.p.c4; have rc := HS.out.r.c1; have qc := HS.out.q.c4; clear hv4))
            go_meet
            exact ⟨rfl, HS⟩
          · have Hpr := Lib.hid hpr
            have Hz := Lib.hid (proof_right hok hpr)
            have hpr2 := hpr
            unfold proofR at hpr2
            rw [Bool.and_eq_true] at hpr2
            have Hnp := Lib.hid hpr2.1
            obtain ⟨wo, hwo⟩ : ∃ wo, wo = weightOf a b m l1 l3 := ⟨_, rfl⟩
            rw [← hwo] at hpr2
            have hw0 : (wo == 0) = false := by simpa using hpr2.2
            have Hwo := Lib.hid hwo.symm
            clear hpr hpr2 hwo
            go_wp2_with (first | (go_at_call 18; with_reducible refine (PatternOk_i a b m A1 c1 l1 _ hl1 HS.out.r1).mono ?_; rintro e v1 ⟨rfl, hv1⟩; rw [hp]; replace HS := Lib.hid (HS.out.bel hv1); have pc := HS.out.p.c4; have rc := HS.out.r.c1; have qc := HS.out.q.c4; clear hv1) | (go_at_call 18; with_reducible refine (PatternOk_i (K : Int) (K : Int) (K : Int) A5 c5 L5 _ hl5 HS.out.r5).mono ?_; rintro e v2 ⟨rfl, hv2⟩; rw [Hpq.out]; replace HS := Lib.hid (HS.out.bel hv2); have pc := HS.out.p.c4; have rc := HS.out.r.c1; have qc := HS.out.q.c4; clear hv2) | (go_at_call 19; with_reducible refine (IsNeutral_i (K : Int) (K : Int) (K : Int) A5 c5 L5 A7 K c7 LL _ hl5 HS.out.r5 HLL.out hKl HS.out.r7).mono ?_; rintro e v3 ⟨rfl, hv3⟩; rw [Hnq.out]; replace HS := Lib.hid (HS.out.bel hv3); have pc := HS.out.p.c4; have rc := HS.out.r.c1; have qc := HS.out.q.c4; clear hv3) | (go_at_call 20; with_reducible refine (IsProof_i a b m A1 c1 l1 A3 c3 l3 A2 l2.length c2 l2 _ hl1 HS.out.r1 hl3 HS.out.r3 rfl hl2 HS.out.r2).mono ?_; rintro e v4 ⟨rfl, hv4⟩; rw [Hpr.out]; replace HS := Lib.hid (HS.out.bel hv4); have pc := HS.out.p.c4; have rc := HS.out.r.c1; have qc := HS.out.q.c4; clear hv4) | (go_at_call 21; with_reducible refine (CountShape_s A3 c3 l3 A2 l2.length c2 l2 _ hl3 HS.out.r3 rfl hl2 HS.out.r2).mono ?_; rintro e v5 ⟨rfl, hv5⟩; rw [Hz.out]; replace HS := Lib.hid (HS.out.bel hv5); have pc := HS.out.p.c4; have rc := HS.out.r.c1; have qc := HS.out.q.c4; clear hv5) | (go_at_call 19; with_reducible refine (IsNeutral_i a b m A1 c1 l1 A2 l2.length c2 l2 _ hl1 HS.out.r1 rfl hl2 HS.out.r2).mono ?_; rintro e v6 ⟨rfl, hv6⟩; rw [Hnp.out]; replace HS := Lib.hid (HS.out.bel hv6); have pc := HS.out.p.c4; have rc := HS.out.r.c1; have qc := HS.out.q.c4; clear hv6) | (go_at_call 22; with_reducible refine (WeightOf_i a b m A1 c1 l1 A3 c3 l3 _ hl1 hl3 HS.out.r1 HS.out.r3).mono ?_; rintro e v7 ⟨rfl, hv7⟩; rw [Hwo.out]; replace HS := Lib.hid (HS.out.bel hv7); have pc := HS.out.p.c4; have rc := HS.out.r.c1; have qc := HS.out.q.c4; clear hv7))
            go_meet
            exact ⟨rfl, HS⟩
        case rest =>
          clear HS pc rc qc
          obtain ⟨rfl, HS⟩ := hcut
          have rc := HS.out.r.c1
          go_wp2_with (first | (go_at_call 16; with_reducible refine (at_lit A0 c0 l0 1 1 rfl _ (by omega) hl (hr0'.out.below HS.out.b)).mono ?_; rintro e wn ⟨rfl, rfl⟩) | (go_at_call 16; with_reducible refine (at_lit A0 c0 l0 2 2 rfl _ (by omega) hl (hr0'.out.below HS.out.b)).mono ?_; rintro e wn ⟨rfl, rfl⟩) | (go_at_call 23; refine (CellsOf_s A3 c3 l3 _ hl3 HS.out.r3).mono ?_; rintro e w8 ⟨v8, rfl, o8, hb8⟩; obtain ⟨⟨A8, c8, rfl⟩, _⟩ := id o8; replace HS := Lib.hid (HS.out.bel hb8); have R8 := Lib.hid o8.rd; clear o8 hb8 rc))
          obtain ⟨n, hn⟩ : ∃ n, n = (regCells l3).length := ⟨_, rfl⟩
          rw [← hn]
          have HN := Lib.hid hn
          have hn64 : n ≤ 64 := by rw [hn]; exact regCells_len l3
          clear hn
          go_loopw [12, 14] (fun s i wr => ∃ j : Nat, j ≤ n ∧ i = .int .i64 j ∧ s = .int .i64 (sumW a b m l1 ((regCells l3).take j)) ∧ Hid (Below w8.heap.size w8 wr)) (fun _ i _ => n - (intOf i).toNat)
          case atStart => exact ⟨0, by omega, rfl, by simp [sumW], Lib.hid (Below.refl _ _)⟩
          case round =>
            obtain ⟨j, hj, rfl, rfl, HBn⟩ := hrel
            have hsr := sumW_rng a b m l1 ((regCells l3).take j)
            have hlt0 : ((regCells l3).take j).length ≤ 64 := by rw [List.length_take]; omega
            by_cases hlt : j < n
            · obtain ⟨b', off, x, y, hA8, hbl, hv, hd, _, _, hc0, hc1⟩ := (R8.out.below HBn.out).at_ (k := j) (by rw [← HN.out]; exact hlt)
              subst hA8
              have hs2 := Lib.hid (show sumW a b m l1 ((regCells l3).take (j + 1)) = sumW a b m l1 ((regCells l3).take j) + weightAt a b m l1 x y by rw [take_snoc_at hv, sumW_snoc])
              have hwr := weightAt_rng a b m l1 x y
              have HS' := Lib.hid (HS.out.bel HBn.out)
              have pc := HS'.out.p.c4
              have q0 := bq_cell pc.1
              have q1 := bq_cell pc.2.1
              have q2 := bq_cell pc.2.2.1
              have q3 := bq_cell pc.2.2.2
              have q4 := bq_cell hc0
              have q5 := bq_cell hc1
              clear hv hd pc hc0 hc1
              go_wp2_with fail
              (refine wp_region_quiet_bel (by kernel_rfl) (by kernel_rfl) ?_; (repeat (first | go_big_quiet_step ((go_at_call 24; exact Calls.bel_of (WeightAt_i a b m A1 c1 l1 x y _ hl1 (HS'.out.r1.below (BelowOf.bel _))))) | quiet_step ((go_at_call 24; exact Calls.bel_of (WeightAt_i a b m A1 c1 l1 x y _ hl1 (HS'.out.r1.below (BelowOf.bel _))))))); refine wpQuiet_nil ?_; intro wq hw0; obtain ⟨⟨_, hbq⟩, hw1⟩ := hw0; subst hw1; try dsimp only)
              go_wp2_with fail
              go_roundw
              case rel => exact ⟨j + 1, by omega, by go_num, by rw [hs2.out], Lib.hid (bl_trans HBn.out hbq)⟩
              case measure => simp [intOf]; omega
            · obtain rfl : j = n := by omega
              have htk : (regCells l3).take j = regCells l3 := by rw [HN.out, List.take_length]
              rw [htk] at hsr ⊢
              obtain ⟨S, hS⟩ : ∃ S, S = sumW a b m l1 (regCells l3) := ⟨_, rfl⟩
              rw [← hS] at hsr ⊢
              replace HS := Lib.hid (HS.out.bel HBn.out)
              obtain ⟨p1, p2, p3, p4, p5, p6, p7⟩ := patOk_true hp
              obtain ⟨M, rfl⟩ : ∃ M : Nat, m = (M : Int) := ⟨m.toNat, by omega⟩
              have hmod : S.tmod (M : Int) = S % (M : Int) := Int.tmod_eq_emod_of_nonneg hsr.1
              obtain ⟨wo, hwo⟩ : ∃ wo, wo = weightOf a b M l1 l3 := ⟨_, rfl⟩
              have hwo2 : S % (M : Int) = wo := by rw [hwo, weightOf, if_pos hp, ← hS]
              have Hwo := Lib.hid hwo.symm
              have hmw : S.tmod (M : Int) = wo := hmod.trans hwo2
              have hm0 : ((M : Int) == 0) = false := by simp only [beq_eq_false_iff_ne]; omega
              have hww : (wo == wo) = true := by simp
              have hwr : 0 ≤ wo ∧ wo < (M : Int) := by rw [← hwo2]; exact ⟨Int.emod_nonneg _ (by omega), Int.emod_lt_of_pos _ (by omega)⟩
              have hmw3 : IntKind.i64.wrap wo = wo := IntWalk.i64_in _ (by omega)
              have hmw2 : IntKind.i64.wrap (S.tmod (M : Int)) = wo := by rw [hmw]; exact hmw3
              have hM0 : ¬ M = 0 := by omega
              have hM1 : ¬ (M : Int) = 0 := by omega
              obtain ⟨L9, hL9⟩ : ∃ L9, L9 = rectR (W : Int) (H : Int) := ⟨_, rfl⟩
              have K9 : Hid (∀ w, Calls Try.prog 25 #[.int .i64 (W : Int), .int .i64 (H : Int)] w fun e w' => ∃ A c, e = .returned (.agg #[.slice A L9.length c]) ∧ OwI w.heap.size w' (.slice A L9.length c) L9 ∧ Below w.heap.size w w') := Lib.hid (by rw [hL9]; exact fun w => Rectangle_i (W : Int) (H : Int) w)
              have hl9 : L9.length ≤ 1048576 := by rw [hL9]; have := (regOk_iff.1 (rectR_ok (W : Int) (H : Int))).1; omega
              have pc := HS.out.p.c4
              have rc := HS.out.r.c1
              have qc := HS.out.q.c4
              clear hS hmod hwo hwo2 p1 p2 p3 p4 p5 p6 p7 htk hlt0 hlt hj HBn R8
              replace hL9 := Lib.hid hL9
              cases hpr : proofR (K : Int) (K : Int) (K : Int) L5 L9 LL
              · have Hpr := Lib.hid hpr
                clear hpr
                go_wp2_with fail
                refine wp_region_held_drew (S := (fun w' : World => (w'.cell? ⟨gp, 0, none⟩ = some (.int .i64 a) ∧ w'.cell? ⟨gp, 1, none⟩ = some (.int .i64 b) ∧ w'.cell? ⟨gp, 2, none⟩ = some (.int .i64 (M : Int)) ∧ w'.cell? ⟨gp, 3, none⟩ = some (.slice A1 l1.length c1)) ∧ w'.cell? ⟨gr, 0, none⟩ = some (.slice A3 l3.length c3) ∧ (w'.cell? ⟨w5.heap.size, 0, none⟩ = some (.int .i64 (K : Int)) ∧ w'.cell? ⟨w5.heap.size, 1, none⟩ = some (.int .i64 (K : Int)) ∧ w'.cell? ⟨w5.heap.size, 2, none⟩ = some (.int .i64 (K : Int)) ∧ w'.cell? ⟨w5.heap.size, 3, none⟩ = some (.slice A5 L5.length c5)))) (by kernel_rfl) ?_ (fun hHeld => ?_)
                · (try dsimp only); go_keep
                refine takeW_ (i := 0) (d := some 102) (v := ?v0) rfl rfl (by kernel_rfl) (by kernel_rfl) (by kernel_rfl) (fun _ _ _ h => h) (Or.inl ⟨by rfl, ?hy0⟩) (by assumption) ?rest0
                case hy0 => (intro w hSw; (try dsimp only at hSw); go_simp; first | done | with_reducible rfl)
                (try simp only [Act.put, List.setIfInBounds_toArray, List.set_cons_zero, List.set_cons_succ])
                refine takeW_ (i := 1) (d := some 103) (v := ?v1) rfl rfl (by kernel_rfl) (by kernel_rfl) (by kernel_rfl) (fun _ _ _ h => h) (Or.inl ⟨by rfl, ?hy1⟩) (by assumption) ?rest1
                case hy1 => (intro w hSw; (try dsimp only at hSw); go_simp; first | done | with_reducible rfl)
                (try simp only [Act.put, List.setIfInBounds_toArray, List.set_cons_zero, List.set_cons_succ])
                refine takeW_ (i := 2) (d := some 104) (v := ?v2) rfl rfl (by kernel_rfl) (by kernel_rfl) (by kernel_rfl) (fun _ _ _ h => h) (Or.inl ⟨by rfl, ?hy2⟩) (by assumption) ?rest2
                case hy2 => (intro w hSw; (try dsimp only at hSw); go_simp; first | done | with_reducible rfl)
                (try simp only [Act.put, List.setIfInBounds_toArray, List.set_cons_zero, List.set_cons_succ])
                refine takeW_ (i := 3) (d := some 105) (v := ?v3) rfl rfl (by kernel_rfl) (by kernel_rfl) (by kernel_rfl) (fun _ _ _ h => h) (Or.inl ⟨by rfl, ?hy3⟩) (by assumption) ?rest3
                case hy3 => (intro w hSw; (try dsimp only at hSw); go_simp; first | done | with_reducible rfl)
                (try simp only [Act.put, List.setIfInBounds_toArray, List.set_cons_zero, List.set_cons_succ])
                refine takeW_ (i := 4) (d := some 106) (v := ?v4) rfl rfl (by kernel_rfl) (by kernel_rfl) (by kernel_rfl) (fun _ _ _ h => h) (Or.inl ⟨by rfl, ?hy4⟩) (by assumption) ?rest4
                case hy4 => (intro w hSw; (try dsimp only at hSw); go_simp; first | done | with_reducible rfl)
                (try simp only [Act.put, List.setIfInBounds_toArray, List.set_cons_zero, List.set_cons_succ])
                refine takeW_ (i := 5) (d := some 107) (v := ?v5) rfl rfl (by kernel_rfl) (by kernel_rfl) (by kernel_rfl) (fun _ _ _ h => h) (Or.inl ⟨by rfl, ?hy5⟩) (by assumption) ?rest5
                case hy5 => (intro w hSw; (try dsimp only at hSw); go_simp; first | done | with_reducible rfl)
                (try simp only [Act.put, List.setIfInBounds_toArray, List.set_cons_zero, List.set_cons_succ])
                refine wpAnyH_ready (rs := [6]) (by kernel_rfl) (by simp) ?_
                refine AllReadyH.cons rfl (fun KK hKK => ?_) AllReadyH.nil
                go_simp
                (go_at_call 22; with_reducible refine (WeightOf_i a b (M : Int) A1 c1 l1 A3 c3 l3 _ hl1 hl3 (HS.out.r1.below (by go_grown)) (HS.out.r3.below (by go_grown))).mono ?_; rintro e y1 ⟨rfl, hy1⟩; rw [Hwo.out]; replace HS := Lib.hid (HS.out.bel (bl_trans (by go_grown) hy1)); have pc := HS.out.p.c4; have rc := HS.out.r.c1; have qc := HS.out.q.c4; clear hy1)
                refine hKK.out _ _ ?_ (fun hHeld => ?_)
                · (try dsimp only); go_keep
                clear hKK KK
                (try simp only [Act.put, List.setIfInBounds_toArray, List.set_cons_zero, List.set_cons_succ])
                refine takeW_ (i := 7) (d := some 109) (v := ?v7) rfl rfl (by kernel_rfl) (by kernel_rfl) (by kernel_rfl) (fun _ _ _ h => h) (Or.inl ⟨by rfl, ?hy7⟩) (by assumption) ?rest7
                case hy7 => (intro w hSw; (try dsimp only at hSw); go_simp; first | done | with_reducible rfl)
                (try simp only [Act.put, List.setIfInBounds_toArray, List.set_cons_zero, List.set_cons_succ])
                refine takeW_ (i := 8) (d := some 110) (v := ?v8) rfl rfl (by kernel_rfl) (by kernel_rfl) (by kernel_rfl) (fun _ _ _ h => h) (Or.inl ⟨by rfl, ?hy8⟩) (by assumption) ?rest8
                case hy8 => (intro w hSw; (try dsimp only at hSw); go_simp; first | done | with_reducible rfl)
                (try simp only [Act.put, List.setIfInBounds_toArray, List.set_cons_zero, List.set_cons_succ])
                refine takeW_ (i := 9) (d := some 111) (v := ?v9) rfl rfl (by kernel_rfl) (by kernel_rfl) (by kernel_rfl) (fun _ _ _ h => h) (Or.inl ⟨by rfl, ?hy9⟩) (by assumption) ?rest9
                case hy9 => (intro w hSw; (try dsimp only at hSw); go_simp; first | done | with_reducible rfl)
                (try simp only [Act.put, List.setIfInBounds_toArray, List.set_cons_zero, List.set_cons_succ])
                refine takeW_ (i := 10) (d := some 112) (v := ?v10) rfl rfl (by kernel_rfl) (by kernel_rfl) (by kernel_rfl) (fun _ _ _ h => h) (Or.inl ⟨by rfl, ?hy10⟩) (by assumption) ?rest10
                case hy10 => (intro w hSw; (try dsimp only at hSw); go_simp; first | done | with_reducible rfl)
                (try simp only [Act.put, List.setIfInBounds_toArray, List.set_cons_zero, List.set_cons_succ])
                refine takeW_ (i := 11) (d := some 113) (v := ?v11) rfl rfl (by kernel_rfl) (by kernel_rfl) (by kernel_rfl) (fun _ _ _ h => h) (Or.inl ⟨by rfl, ?hy11⟩) (by assumption) ?rest11
                case hy11 => (intro w hSw; (try dsimp only at hSw); go_simp; first | done | with_reducible rfl)
                (try simp only [Act.put, List.setIfInBounds_toArray, List.set_cons_zero, List.set_cons_succ])
                refine takeW_ (i := 13) (d := some 115) (v := ?v13) rfl rfl (by kernel_rfl) (by kernel_rfl) (by kernel_rfl) (fun _ _ _ h => h) (Or.inl ⟨by rfl, ?hy13⟩) (by assumption) ?rest13
                case hy13 => (intro w hSw; (try dsimp only at hSw); go_simp; first | done | with_reducible rfl)
                (try simp only [Act.put, List.setIfInBounds_toArray, List.set_cons_zero, List.set_cons_succ])
                refine wpAnyH_ready (rs := [12]) (by kernel_rfl) (by simp) ?_
                refine AllReadyH.cons rfl (fun KK hKK => ?_) AllReadyH.nil
                go_simp
                (go_at_call 25; with_reducible refine (K9.out _).mono ?_; rintro e y2 ⟨A9, c9, rfl, o9, hy2⟩; have R9 := Lib.hid o9.rd; replace HS := Lib.hid (HS.out.bel (bl_trans (by go_grown) hy2)); have pc := HS.out.p.c4; have rc := HS.out.r.c1; have qc := HS.out.q.c4; clear hy2 o9)
                refine hKK.out _ _ ?_ (fun hHeld => ?_)
                · (try dsimp only); go_keep
                clear hKK KK
                (try simp only [Act.put, List.setIfInBounds_toArray, List.set_cons_zero, List.set_cons_succ])
                refine wpAnyH_ready (rs := [14]) (by kernel_rfl) (by simp) ?_
                refine AllReadyH.cons rfl (fun KK hKK => ?_) AllReadyH.nil
                go_simp
                (go_at_call 20; with_reducible refine (IsProof_i (K : Int) (K : Int) (K : Int) A5 c5 L5 A9 c9 L9 A7 K c7 LL _ hl5 (HS.out.r5.below (by go_grown)) hl9 (R9.out.below (by go_grown)) HLL.out hKl (HS.out.r7.below (by go_grown))).mono ?_; rintro e y3 ⟨rfl, hy3⟩; rw [Hpr.out]; replace HS := Lib.hid (HS.out.bel (bl_trans (by go_grown) hy3)); have pc := HS.out.p.c4; have rc := HS.out.r.c1; have qc := HS.out.q.c4; clear hy3)
                refine hKK.out _ _ ?_ (fun hHeld => ?_)
                · (try dsimp only); go_keep
                clear hKK KK
                (try simp only [Act.put, List.setIfInBounds_toArray, List.set_cons_zero, List.set_cons_succ])
                refine takeW_ (i := 15) (d := some 117) (v := ?v15) rfl rfl (by kernel_rfl) (by kernel_rfl) (by kernel_rfl) (fun _ _ _ h => h) (Or.inl ⟨by rfl, ?hy15⟩) (by assumption) ?rest15
                case hy15 => (intro w hSw; (try dsimp only at hSw); go_simp; first | done | with_reducible rfl)
                (try simp only [Act.put, List.setIfInBounds_toArray, List.set_cons_zero, List.set_cons_succ])
                refine takeW_ (i := 16) (d := some 118) (v := ?v16) rfl rfl (by kernel_rfl) (by kernel_rfl) (by kernel_rfl) (fun _ _ _ h => h) (Or.inl ⟨by rfl, ?hy16⟩) (by assumption) ?rest16
                case hy16 => (intro w hSw; (try dsimp only at hSw); go_simp; first | done | with_reducible rfl)
                (try simp only [Act.put, List.setIfInBounds_toArray, List.set_cons_zero, List.set_cons_succ])
                refine takeW_ (i := 17) (d := some 119) (v := undef) rfl rfl (by kernel_rfl) (by kernel_rfl) (by kernel_rfl) (fun _ _ _ h => h) (Or.inr ⟨by rfl, rfl⟩) (by assumption) ?_
                (try simp only [Act.put, List.setIfInBounds_toArray, List.set_cons_zero, List.set_cons_succ])
                refine takeW_ (i := 18) (d := some 120) (v := undef) rfl rfl (by kernel_rfl) (by kernel_rfl) (by kernel_rfl) (fun _ _ _ h => h) (Or.inr ⟨by rfl, rfl⟩) (by assumption) ?_
                (try simp only [Act.put, List.setIfInBounds_toArray, List.set_cons_zero, List.set_cons_succ])
                refine takeW_ (i := 19) (d := some 121) (v := undef) rfl rfl (by kernel_rfl) (by kernel_rfl) (by kernel_rfl) (fun _ _ _ h => h) (Or.inr ⟨by rfl, rfl⟩) (by assumption) ?_
                (try simp only [Act.put, List.setIfInBounds_toArray, List.set_cons_zero, List.set_cons_succ])
                refine takeW_ (i := 20) (d := some 122) (v := undef) rfl rfl (by kernel_rfl) (by kernel_rfl) (by kernel_rfl) (fun _ _ _ h => h) (Or.inr ⟨by rfl, rfl⟩) (by assumption) ?_
                (try simp only [Act.put, List.setIfInBounds_toArray, List.set_cons_zero, List.set_cons_succ])
                refine takeW_ (i := 21) (d := some 123) (v := undef) rfl rfl (by kernel_rfl) (by kernel_rfl) (by kernel_rfl) (fun _ _ _ h => h) (Or.inr ⟨by rfl, rfl⟩) (by assumption) ?_
                (try simp only [Act.put, List.setIfInBounds_toArray, List.set_cons_zero, List.set_cons_succ])
                refine takeW_ (i := 22) (d := some 124) (v := ?v22) rfl rfl (by kernel_rfl) (by kernel_rfl) (by kernel_rfl) (fun _ _ _ h => h) (Or.inl ⟨by rfl, ?hy22⟩) (by assumption) ?rest22
                case hy22 => (intro w hSw; (try dsimp only at hSw); go_simp; first | done | with_reducible rfl)
                (try simp only [Act.put, List.setIfInBounds_toArray, List.set_cons_zero, List.set_cons_succ])
                refine takeW_ (i := 23) (d := some 125) (v := ?v23) rfl rfl (by kernel_rfl) (by kernel_rfl) (by kernel_rfl) (fun _ _ _ h => h) (Or.inl ⟨by rfl, ?hy23⟩) (by assumption) ?rest23
                case hy23 => (intro w hSw; (try dsimp only at hSw); go_simp; first | done | with_reducible rfl)
                (try simp only [Act.put, List.setIfInBounds_toArray, List.set_cons_zero, List.set_cons_succ])
                refine takeW_ (i := 24) (d := some 2) (v := ?v24) rfl rfl (by kernel_rfl) (by kernel_rfl) (by kernel_rfl) (fun _ _ _ h => h) (Or.inl ⟨by rfl, ?hy24⟩) (by assumption) ?rest24
                case hy24 => (intro w hSw; (try dsimp only at hSw); go_simp; first | done | with_reducible rfl)
                (try simp only [Act.put, List.setIfInBounds_toArray, List.set_cons_zero, List.set_cons_succ])
                refine wpAnyH_done (by kernel_rfl) ?_ _
                all_goals (go_wp2_with fail; go_ret; exact ⟨rfl, HS.out.b⟩)
              · have Hpr := Lib.hid hpr
                have Hlz := Lib.hid (Hlong.out (by rw [← hL9.out]; exact hpr))
                clear hpr
                go_wp2_with fail
                go_region_held3 (fun w' => (w'.cell? ⟨gp, 0, none⟩ = some (.int .i64 a) ∧ w'.cell? ⟨gp, 1, none⟩ = some (.int .i64 b) ∧ w'.cell? ⟨gp, 2, none⟩ = some (.int .i64 (M : Int)) ∧ w'.cell? ⟨gp, 3, none⟩ = some (.slice A1 l1.length c1)) ∧ w'.cell? ⟨gr, 0, none⟩ = some (.slice A3 l3.length c3) ∧ (w'.cell? ⟨w5.heap.size, 0, none⟩ = some (.int .i64 (K : Int)) ∧ w'.cell? ⟨w5.heap.size, 1, none⟩ = some (.int .i64 (K : Int)) ∧ w'.cell? ⟨w5.heap.size, 2, none⟩ = some (.int .i64 (K : Int)) ∧ w'.cell? ⟨w5.heap.size, 3, none⟩ = some (.slice A5 L5.length c5))) (go_keep)
                  (first | (go_at_call 22; with_reducible refine (WeightOf_i a b (M : Int) A1 c1 l1 A3 c3 l3 _ hl1 hl3 (HS.out.r1.below (by go_grown)) (HS.out.r3.below (by go_grown))).mono ?_; rintro e y1 ⟨rfl, hy1⟩; rw [Hwo.out]; replace HS := Lib.hid (HS.out.bel (bl_trans (by go_grown) hy1)); have pc := HS.out.p.c4; have rc := HS.out.r.c1; have qc := HS.out.q.c4; clear hy1) | (go_at_call 25; with_reducible refine (K9.out _).mono ?_; rintro e y2 ⟨A9, c9, rfl, o9, hy2⟩; have R9 := Lib.hid o9.rd; replace HS := Lib.hid (HS.out.bel (bl_trans (by go_grown) hy2)); have pc := HS.out.p.c4; have rc := HS.out.r.c1; have qc := HS.out.q.c4; clear hy2 o9) | (go_at_call 20; with_reducible refine (IsProof_i (K : Int) (K : Int) (K : Int) A5 c5 L5 A9 c9 L9 A7 K c7 LL _ hl5 (HS.out.r5.below (by go_grown)) hl9 (R9.out.below (by go_grown)) HLL.out hKl (HS.out.r7.below (by go_grown))).mono ?_; rintro e y3 ⟨rfl, hy3⟩; rw [Hpr.out]; replace HS := Lib.hid (HS.out.bel (bl_trans (by go_grown) hy3)); have pc := HS.out.p.c4; have rc := HS.out.r.c1; have qc := HS.out.q.c4; clear hy3) | (go_at_call 26; with_reducible refine (CountLong_s (W : Int) (H : Int) (K : Int) _).mono ?_; rintro e y4 ⟨rfl, rfl⟩; rw [Hlz.out]))
                go_wp2_with fail
                go_ret
                exact ⟨rfl, HS.out.b⟩
end Go.Proofs.Ytdcjhfmkkcakhaa

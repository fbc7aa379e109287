/- The law FnMerges returns true for all arguments: its walk. -/
import Derived.Test.YtmpfkmbfbeejhaaR8
import Derived.Test.YtmpfkmbfbeejhaaCommon
import Derived.Deep.DeepCutAuto
namespace Go.Proofs.Ytmpfkmbfbeejhaa
open Go.RowKit
set_option linter.unusedVariables false

theorem hist_short {vs : List VerZ} (h : histB vs = true) : Short vs := by
  intro v hv
  obtain ⟨k, hk⟩ := List.mem_iff_getElem?.1 hv
  have := state_len (hist_state h hk)
  omega
/-- Both ways of merging, and their conflicts. -/
theorem merge_law {b x y : List SetZ} (h0 : stateB b = true) (h1 : stateB x = true) (h2 : stateB y = true) : conC b x y = 0 ∧ conC b y x = 0 ∧ conR b y x = conR b x y ∧ mstC b y x = mstC b x y ∧ mstR b y x = mstR b x y ∧
    ((mstC b x y = 6 ∧ 0 < (conR b x y).length) ∨ (mstC b x y ≠ 6 ∧ (conR b x y).length = 0)) ∧ (mstC b x y = 0 → stateB (mstR b x y) = true) := by
  have t1 : three b x y = true := by unfold three; rw [h0, h1, h2]; rfl
  have t2 : three b y x = true := by unfold three; rw [h0, h1, h2]; rfl
  obtain ⟨a1, a2, _, _⟩ := con_ok t1
  obtain ⟨b1, b2, _, _⟩ := con_ok t2
  obtain ⟨m1, m2⟩ := mst_comm b x y
  have hc := mst_code h0 h1 h2
  refine ⟨a1, b1, by rw [a2, b2, conf_comm], m1.symm, m2.symm, ?_, mst_valid h0 h1 h2⟩
  rw [a2]
  by_cases h : confZ b x y = []
  · refine .inr ⟨fun e => (hc.1 e) h, by rw [h]; rfl⟩
  · exact .inl ⟨hc.2 h, List.length_pos_iff.2 h⟩
/-- Common ancestors, in both orders. -/
theorem common_law {vs : List VerZ} {n p q : Nat} (h : histB vs = true) (hl : vs.length = n) (hp1 : 1 ≤ p) (hp : p ≤ n) (hq1 : 1 ≤ q) (hq : q ≤ n) : comC vs p q = 0 ∧ comC vs q p = 0 ∧ ∃ s : Int, comR vs p q = s ∧ comR vs q p = s ∧ 0 ≤ s ∧ s ≤ p ∧ s ≤ q := by
  have c1 : comC vs p q = 0 := by
    unfold comC; rw [codeV_two h, hl, withinB_iff.2 ⟨by omega, by omega⟩, withinB_iff.2 ⟨by omega, by omega⟩]; rfl
  have c2 : comC vs q p = 0 := by
    unfold comC; rw [codeV_two h, hl, withinB_iff.2 ⟨by omega, by omega⟩, withinB_iff.2 ⟨by omega, by omega⟩]; rfl
  obtain ⟨l1, l2, l3⟩ := comV_low h p q
  refine ⟨c1, c2, comV vs p q, by unfold comR; rw [if_pos c1]; rfl, by unfold comR; rw [if_pos c2, comV_comm h]; rfl, l1, l2, l3⟩

set_option maxHeartbeats 8000000 in
set_option maxRecDepth 1000000 in
theorem law_Merges (A0 : Option Addr) (n0 c0 : Nat) (bs0 : List Int) (A1 : Option Addr) (n1 c1 : Nat) (bs1 : List Int) (w : World) (h0 : RdY w A0 n0 bs0) (h1 : RdY w A1 n1 bs1) :
    Calls Try.prog 5 #[.slice A0 n0 c0, .slice A1 n1 c1] w fun e w' => e = .returned (.bool true) ∧ Below w.heap.size w w' := by
  have LG := hide (r8Long_calls A0 A1 n0 n1 c0 c1 w)
  have H0 := hide h0
  have H1 := hide h1
  clear h0 h1
  by_cases hn : n0 ≤ 1048576 ∧ n1 ≤ 1048576
  case neg =>
    have e : (!decide (n0 ≤ 1048576) || !decide (n1 ≤ 1048576)) = true := by
      rw [← Bool.not_and, Bool.not_eq_true', Bool.and_eq_false_iff, decide_eq_false_iff_not, decide_eq_false_iff_not]
      omega
    rw [e] at LG
    go_enter Try.func5, Try.ntmps5
    go_wp2_with fail
    refine LG.out.mono ?_
    rintro e w' ⟨rfl, rfl⟩
    go_wp2
    go_ret
    exact ⟨rfl, Below.refl _ _⟩
  obtain ⟨hn0, hn1⟩ := hn
  rw [decide_eq_true hn0, decide_eq_true hn1] at LG
  have D1 := hide (r8State_calls n0 c0 A0 bs0 w H0.out hn0)
  go_enter Try.func5, Try.ntmps5
  go_wp2_with fail
  refine LG.out.mono ?_
  rintro e w' ⟨rfl, rfl⟩
  go_wp2_with fail
  refine D1.out.mono ?_
  rintro e w1 ⟨A2, m2, c2, sb, rfl, r2, sm2, hm2, hb1⟩
  have HR2 := hide r2
  have HB1 := hide hb1
  have D2 := hide (r8Changed_calls n1 c1 A1 bs1 A2 m2 c2 sb w1 (H1.out.below hb1 (Nat.le_refl _)) hn1 r2 sm2)
  have HSb := hide sm2
  clear r2 hb1 D1 LG sm2
  go_wp2_with fail
  refine D2.out.mono ?_
  rintro e w2 ⟨A3, m3, c3, sa, rfl, r3, sm3, hm3, hb2⟩
  have HR2 := hide (HR2.out.below hb2 (Nat.le_refl _))
  have HR3 := hide r3
  have HB2 := hide (HB1.out.trans (hb2.mono HB1.out.size))
  have D3 := hide (r8Changed_calls n0 c0 A0 bs0 A2 m2 c2 sb w2 (H0.out.below HB2.out (Nat.le_refl _)) hn0 HR2.out HSb.out)
  have HSa := hide sm3
  clear r3 hb2 D2 sm3 HB1
  go_wp2_with fail
  refine D3.out.mono ?_
  rintro e w3 ⟨A4, m4, c4, sc, rfl, r4, sm4, hm4, hb3⟩
  have HR2 := hide (HR2.out.below hb3 (Nat.le_refl _))
  have HR3 := hide (HR3.out.below hb3 (Nat.le_refl _))
  have HR4 := hide r4
  have HB3 := hide (HB2.out.trans (hb3.mono HB2.out.size))
  have HSc := hide sm4
  obtain ⟨q1, q2⟩ := merge_left HSb.out.state HSa.out.state
  have M1 := hide (implMergeStates_calls A2 m2 c2 A3 m3 c3 A2 m2 c2 sb sa sb w3 HR2.out HR3.out HR2.out (by omega) (by omega) (by omega))
  unfold MstPost at M1
  rw [q1, q2] at M1
  clear r4 hb3 D3 sm4 HB2 q1 q2
  go_wp2_with fail
  refine M1.out.mono ?_
  rintro e w4 ⟨A5, m5, c5, rfl, f5, N5, hb4⟩
  have HR2 := hide (HR2.out.below hb4 (Nat.le_refl _))
  have HR3 := hide (HR3.out.below hb4 (Nat.le_refl _))
  have HR4 := hide (HR4.out.below hb4 (Nat.le_refl _))
  have HR5 := hide (show RdS w4 A5 m5 sa from f5.rd)
  have HB4 := hide (HB3.out.trans (hb4.mono HB3.out.size))
  obtain ⟨q1, q2⟩ := merge_right HSb.out.state HSa.out.state
  have M2 := hide (implMergeStates_calls A2 m2 c2 A2 m2 c2 A3 m3 c3 sb sb sa w4 HR2.out HR2.out HR3.out (by omega) (by omega) (by omega))
  unfold MstPost at M2
  rw [q1, q2] at M2
  clear f5 hb4 M1 HB3 q1 q2
  go_wp2_with fail
  refine M2.out.mono ?_
  rintro e w5 ⟨A6, m6, c6, rfl, f6, N6, hb5⟩
  have HR2 := hide (HR2.out.below hb5 (Nat.le_refl _))
  have HR3 := hide (HR3.out.below hb5 (Nat.le_refl _))
  have HR4 := hide (HR4.out.below hb5 (Nat.le_refl _))
  have HR5 := hide (HR5.out.below hb5 (Nat.le_refl _))
  have HR6 := hide (show RdS w5 A6 m6 sa from f6.rd)
  have HB5 := hide (HB4.out.trans (hb5.mono HB4.out.size))
  obtain ⟨q1, q2⟩ := merge_both HSb.out.state HSa.out.state
  have M3 := hide (implMergeStates_calls A2 m2 c2 A3 m3 c3 A3 m3 c3 sb sa sa w5 HR2.out HR3.out HR3.out (by omega) (by omega) (by omega))
  unfold MstPost at M3
  rw [q1, q2] at M3
  clear f6 hb5 M2 HB4 q1 q2
  go_wp2_with fail
  refine M3.out.mono ?_
  rintro e w6 ⟨A7, m7, c7, rfl, f7, N7, hb6⟩
  have HR2 := hide (HR2.out.below hb6 (Nat.le_refl _))
  have HR3 := hide (HR3.out.below hb6 (Nat.le_refl _))
  have HR4 := hide (HR4.out.below hb6 (Nat.le_refl _))
  have HR5 := hide (HR5.out.below hb6 (Nat.le_refl _))
  have HR6 := hide (HR6.out.below hb6 (Nat.le_refl _))
  have HR7 := hide (show RdS w6 A7 m7 sa from f7.rd)
  have HB6 := hide (HB5.out.trans (hb6.mono HB5.out.size))
  have S1 := hide (specSameState_calls A5 A3 m5 m3 c5 c3 sa sa w6 HR5.out HR3.out N5 (by omega))
  rw [decide_eq_true (rfl : sa = sa)] at S1
  clear f7 hb6 M3 HB5
  go_wp2_with fail
  refine S1.out.mono ?_
  rintro e w7 ⟨rfl, hj7⟩
  have hb7 := below_of_draws hj7
  have HR2 := hide (HR2.out.below hb7 (Nat.le_refl _))
  have HR3 := hide (HR3.out.below hb7 (Nat.le_refl _))
  have HR4 := hide (HR4.out.below hb7 (Nat.le_refl _))
  have HR6 := hide (HR6.out.below hb7 (Nat.le_refl _))
  have HR7 := hide (HR7.out.below hb7 (Nat.le_refl _))
  have HB7 := hide (HB6.out.trans (hb7.mono HB6.out.size))
  have S2 := hide (specSameState_calls A6 A3 m6 m3 c6 c3 sa sa w7 HR6.out HR3.out N6 (by omega))
  rw [decide_eq_true (rfl : sa = sa)] at S2
  clear hj7 hb7 S1 HB6 HR5
  go_wp2_with fail
  refine S2.out.mono ?_
  rintro e w8 ⟨rfl, hj8⟩
  have hb8 := below_of_draws hj8
  have HR2 := hide (HR2.out.below hb8 (Nat.le_refl _))
  have HR3 := hide (HR3.out.below hb8 (Nat.le_refl _))
  have HR4 := hide (HR4.out.below hb8 (Nat.le_refl _))
  have HR7 := hide (HR7.out.below hb8 (Nat.le_refl _))
  have HB8 := hide (HB7.out.trans (hb8.mono HB7.out.size))
  have S3 := hide (specSameState_calls A7 A3 m7 m3 c7 c3 sa sa w8 HR7.out HR3.out N7 (by omega))
  rw [decide_eq_true (rfl : sa = sa)] at S3
  clear hj8 hb8 S2 HB7 HR6
  go_wp2_with fail
  refine S3.out.mono ?_
  rintro e w9 ⟨rfl, hj9⟩
  have hb9 := below_of_draws hj9
  have HR2 := hide (HR2.out.below hb9 (Nat.le_refl _))
  have HR3 := hide (HR3.out.below hb9 (Nat.le_refl _))
  have HR4 := hide (HR4.out.below hb9 (Nat.le_refl _))
  have HB9 := hide (HB8.out.trans (hb9.mono HB8.out.size))
  obtain ⟨k1, k2, k3, k4, k5, k6, k7⟩ := merge_law HSb.out.state HSa.out.state HSc.out.state
  have C1 := hide (implConflictsOf_calls A2 m2 c2 A3 m3 c3 A4 m4 c4 sb sa sc w9 HR2.out HR3.out HR4.out (by omega) (by omega) (by omega))
  have C2 := hide (fun W (g2 : RdS W A2 m2 sb) (g3 : RdS W A3 m3 sa) (g4 : RdS W A4 m4 sc) => implConflictsOf_calls A2 m2 c2 A4 m4 c4 A3 m3 c3 sb sc sa W g2 g4 g3 (by omega) (by omega) (by omega))
  have C3 := hide (fun W (g2 : RdS W A2 m2 sb) (g3 : RdS W A3 m3 sa) (g4 : RdS W A4 m4 sc) => implMergeStates_calls A2 m2 c2 A3 m3 c3 A4 m4 c4 sb sa sc W g2 g3 g4 (by omega) (by omega) (by omega))
  have C4 := hide (fun W (g2 : RdS W A2 m2 sb) (g3 : RdS W A3 m3 sa) (g4 : RdS W A4 m4 sc) => implMergeStates_calls A2 m2 c2 A4 m4 c4 A3 m3 c3 sb sc sa W g2 g4 g3 (by omega) (by omega) (by omega))
  unfold ConPost at C1 C2
  unfold MstPost at C3 C4
  rw [k1] at C1
  rw [k2, k3] at C2
  rw [k4, k5] at C4
  obtain ⟨K, hK⟩ : ∃ K, K = mstC sb sa sc := ⟨_, rfl⟩
  obtain ⟨R, hR⟩ : ∃ R, R = mstR sb sa sc := ⟨_, rfl⟩
  obtain ⟨L, hL⟩ : ∃ L, L = conR sb sa sc := ⟨_, rfl⟩
  rw [← hL] at C1 C2
  rw [← hK, ← hR] at C3 C4
  rw [← hK, ← hL] at k6
  rw [← hK, ← hR] at k7
  have HK6 := hide (And.intro k6 k7)
  clear hj9 hb9 S3 HB8 HR7 k1 k2 k3 k4 k5 k6 k7 hK hR hL
  go_wp2_with fail
  refine C1.out.mono ?_
  rintro e w10 ⟨A8, m8, c8, rfl, f8, N8, hb10⟩
  have hl8 : L.length = m8 := f8.rd.2.1
  have HR2 := hide (HR2.out.below hb10 (Nat.le_refl _))
  have HR3 := hide (HR3.out.below hb10 (Nat.le_refl _))
  have HR4 := hide (HR4.out.below hb10 (Nat.le_refl _))
  have HB10 := hide (HB9.out.trans (hb10.mono HB9.out.size))
  have HL8 := hide hl8
  clear f8 hb10 C1 HB9 hl8
  go_wp2_with fail
  refine (C2.out w10 HR2.out HR3.out HR4.out).mono ?_
  rintro e w11 ⟨A9, m9, c9, rfl, f9, N9, hb11⟩
  have hl9 : m9 = m8 := by rw [← HL8.out]; exact f9.rd.2.1.symm
  subst hl9
  have HR2 := hide (HR2.out.below hb11 (Nat.le_refl _))
  have HR3 := hide (HR3.out.below hb11 (Nat.le_refl _))
  have HR4 := hide (HR4.out.below hb11 (Nat.le_refl _))
  have HB11 := hide (HB10.out.trans (hb11.mono HB10.out.size))
  clear f9 hb11 C2 HB10
  go_wp2_with fail
  refine (C3.out w11 HR2.out HR3.out HR4.out).mono ?_
  rintro e w12 ⟨B5, l5, d5, rfl, g5, P5, hb12⟩
  have HR2 := hide (HR2.out.below hb12 (Nat.le_refl _))
  have HR3 := hide (HR3.out.below hb12 (Nat.le_refl _))
  have HR4 := hide (HR4.out.below hb12 (Nat.le_refl _))
  have HU5 := hide (show RdS w12 B5 l5 R from g5.rd)
  have HB12 := hide (HB11.out.trans (hb12.mono HB11.out.size))
  clear g5 hb12 C3 HB11
  go_wp2_with fail
  refine (C4.out w12 HR2.out HR3.out HR4.out).mono ?_
  rintro e w13 ⟨B6, l6, d6, rfl, g6, P6, hb13⟩
  have HU5 := hide (HU5.out.below hb13 (Nat.le_refl _))
  have HU6 := hide (show RdS w13 B6 l6 R from g6.rd)
  have HB13 := hide (HB12.out.trans (hb13.mono HB12.out.size))
  clear g6 hb13 C4 HB12 HR2 HR3 HR4
  go_upto_region 15 with fail
  go_cut [160] (fun c wx => c = .bool false ∧ Hid (Below w.heap.size w wx))
  case first => as_aux_lemma =>
    rcases HK6.out.1 with ⟨e1, e2⟩ | ⟨e1, e2⟩
    · have hm9 : 0 < m9 := by rw [← HL8.out]; exact e2
      have g1 : (0 : Int) < (m9 : Int) := by omega
      subst e1
      clear e2
      go_wp2_with fail
      go_meet
      case rel => exact ⟨rfl, HB13.out⟩
    · have hm9 : m9 = 0 := by rw [← HL8.out]; exact e2
      subst hm9
      by_cases hk0 : K = 0
      · subst hk0
        have V := HK6.out.2 rfl
        have S1 := hide (specSameState_calls B5 B6 l5 l6 d5 d6 R R w13 HU5.out HU6.out P5 P6)
        rw [decide_eq_true (rfl : R = R)] at S1
        have HV := hide V
        clear e1 e2 V
        go_wp2_with fail
        refine S1.out.mono ?_
        rintro e w14 ⟨rfl, hj14⟩
        have hb14 := below_of_draws hj14
        have VS := hide (specValidState_calls B5 l5 d5 R w14 (HU5.out.below hb14 (Nat.le_refl _)) P5)
        rw [HV.out] at VS
        have HB14 := hide (HB13.out.trans (hb14.mono HB13.out.size))
        clear hj14 hb14 S1
        go_wp2_with fail
        refine VS.out.mono ?_
        rintro e w15 ⟨rfl, hj15⟩
        have HB15 := hide (HB14.out.trans ((below_of_draws hj15).mono HB14.out.size))
        clear hj15 VS
        go_wp2_with fail
        go_meet
        case rel => exact ⟨rfl, HB15.out⟩
      · have g1 : (K == 0) = false := by simpa using hk0
        have g2 : (K == 6) = false := by simpa using e1
        clear e2
        go_wp2_with fail
        go_meet
        case rel => exact ⟨rfl, HB13.out⟩
  case rest => as_aux_lemma =>
    obtain ⟨hc160, hB⟩ := hcut
    subst hc160
    have HC := hide hB.out
    have D1 := hide (r8History_calls n1 c1 A1 bs1 wc (H1.out.below HC.out (Nat.le_refl _)) hn1)
    clear hB HU5 HU6 HK6 HL8 HB13
    go_wp2_with fail
    refine D1.out.mono ?_
    rintro e w14 ⟨A8, m8, c8, rs, rfl, r8, hh, hsm, hm8, hb14⟩
    have HV := hide (show RdVz w14 A8 m8 (zV rs) from ⟨rs, r8, rfl⟩)
    have HH := hide (And.intro hh (short_of hsm))
    have hlv : (zV rs).length = m8 := HV.out.len
    have HLV := hide hlv
    have HB14 := hide (HC.out.trans (hb14.mono HC.out.size))
    have HY := hide (H1.out.below HB14.out (Nat.le_refl _))
    clear r8 hh hsm hb14 D1 HC hlv
    by_cases hm0 : m8 = 0
    · subst hm0
      go_wp2
      go_ret
      exact ⟨rfl, HB14.out⟩
    · have g0 : ((m8 : Int) == 0) = false := by rw [beq_eq_false_iff_ne]; omega
      have P1 := hide (r8At_calls A1 n1 c1 0 (m8 : Int) bs1 w14 HY.out hn1 (by omega) (by unfold I64; omega))
      have P2 := hide (r8At_calls A1 n1 c1 1 (m8 : Int) bs1 w14 HY.out hn1 (by omega) (by unfold I64; omega))
      go_wp2_with fail
      refine P1.out.mono ?_
      rintro e w' ⟨p0, rfl, hp0, hp255, rfl⟩
      clear P1
      go_wp2_with fail
      refine P2.out.mono ?_
      rintro e w' ⟨q0, rfl, hq0, hq255, rfl⟩
      clear P2
      obtain ⟨p, hp⟩ : ∃ p, p = p0 + 1 := ⟨_, rfl⟩
      obtain ⟨q, hq⟩ : ∃ q, q = q0 + 1 := ⟨_, rfl⟩
      obtain ⟨y1, y2, s, y3, y4, y5, y6, y7⟩ := common_law (p := p) (q := q) HH.out.1 HLV.out (by omega) (by omega) (by omega) (by omega)
      have CA := hide (implCommonAncestor_calls A8 m8 c8 (zV rs) p q w14 HV.out (by unfold I64; omega) (by unfold I64; omega) (by omega) HH.out.2)
      have CB := hide (fun W (hW : RdVz W A8 m8 (zV rs)) => implCommonAncestor_calls A8 m8 c8 (zV rs) q p W hW (by unfold I64; omega) (by unfold I64; omega) (by omega) HH.out.2)
      have CM := hide (fun W (hW : RdVz W A8 m8 (zV rs)) => implMergeVersions_calls A8 m8 c8 (zV rs) p q ⟨#[98, 111, 116, 104]⟩ W hW (by unfold I64; omega) (by unfold I64; omega) (by decide) (by omega) (by decide) HH.out.2)
      unfold MvPost at CM
      rw [y1, y3] at CA
      rw [y2, y4] at CB
      have ep : 1 + (p0 : Int) = (p : Int) := by omega
      have eq : 1 + (q0 : Int) = (q : Int) := by omega
      have HEP := hide (And.intro ep eq)
      have hp2 : p ≤ 256 := by omega
      have hq2 : q ≤ 256 := by omega
      have HY7 := hide (And.intro y5 (And.intro y6 y7))
      clear y1 y2 y3 y4 y5 y6 y7 hp0 hq0 hp hq ep eq
      go_wp2_with fail
      rw [HEP.out.1, HEP.out.2]
      refine CA.out.mono ?_
      rintro e w15 ⟨rfl, hb15⟩
      have HV := hide (HV.out.below hb15 (Nat.le_refl _))
      have HB15 := hide (HB14.out.trans (hb15.mono HB14.out.size))
      clear hb15 CA HB14
      go_wp2_with fail
      refine (CB.out w15 HV.out).mono ?_
      rintro e w16 ⟨rfl, hb16⟩
      have HV := hide (HV.out.below hb16 (Nat.le_refl _))
      have HB16 := hide (HB15.out.trans (hb16.mono HB15.out.size))
      clear hb16 CB HB15
      go_wp2_with fail
      refine (CM.out w16 HV.out).mono ?_
      rintro e w17 ⟨A9, m9', c9', rfl, f9, N9, hb17⟩
      have HB17 := hide (HB16.out.trans (hb17.mono HB16.out.size))
      obtain ⟨J, hJ⟩ : ∃ J, J = mvC (zV rs) p q ⟨#[98, 111, 116, 104]⟩ := ⟨_, rfl⟩
      rw [← hJ]
      have HJ := hide hJ
      have HF9 := hide f9.rd
      have g5 : ¬ s < 0 := by have := HY7.out; omega
      have g6 : ¬ (min (p : Int) (q : Int)) < s := by have := HY7.out; omega
      clear hb17 CM HB16 hJ f9
      by_cases hj0 : J = 0
      · subst hj0
        obtain ⟨z1, z2⟩ := mv_valid HH.out.1 HJ.out.symm
        have hl9 : m9' = m8 + 1 := by rw [← HF9.out.len, z1, HLV.out]
        have VH := hide (specValidHistory_calls A9 m9' c9' _ w17 HF9.out N9 (hist_short z2))
        rw [z2] at VH
        have e9 : (m9' : Int) = (m8 : Int) + 1 := by omega
        have g9 : ((m9' : Int) == (m8 : Int) + 1) = true := by rw [beq_iff_eq]; exact e9
        clear z1 z2 hl9 e9
        go_wp2_with fail
        refine VH.out.mono ?_
        rintro e w18 ⟨rfl, hb18⟩
        have HB18 := hide (HB17.out.trans (hb18.mono HB17.out.size))
        clear hb18 VH
        go_wp2
        go_ret
        exact ⟨rfl, HB18.out⟩
      · have gj : (J == 0) = false := by simpa using hj0
        go_wp2
        go_ret
        exact ⟨rfl, HB17.out⟩

end Go.Proofs.Ytmpfkmbfbeejhaa

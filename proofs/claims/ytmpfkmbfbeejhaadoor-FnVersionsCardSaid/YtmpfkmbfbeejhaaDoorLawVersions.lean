/- The law FnVersions returns true for all arguments: its walk. -/
import Derived.Test.YtmpfkmbfbeejhaaDoorR8
import Derived.Test.YtmpfkmbfbeejhaaDoorVersL
import Derived.Test.YtmpfkmbfbeejhaaDoorVerI
import Derived.Test.YtmpfkmbfbeejhaaDoorApply
import Derived.Test.YtmpfkmbfbeejhaaDoorDiff
import Derived.Test.YtmpfkmbfbeejhaaDoorCommitState
import Derived.Test.YtmpfkmbfbeejhaaDoorHeads
import Derived.Test.YtmpfkmbfbeejhaaDoorCommon
import Derived.Deep.DeepCutAuto
namespace Go.Proofs.YtmpfkmbfbeejhaaDoor
open Go.RowKit
set_option linter.unusedVariables false

theorem hist_short {vs : List VerZ} (h : histB vs = true) : Short vs := by
  intro v hv
  obtain ⟨k, hk⟩ := List.mem_iff_getElem?.1 hv
  have := state_len (hist_state h hk)
  omega

set_option maxHeartbeats 400000 in
theorem r8Has_calls (A : Option Addr) (n c : Nat) (xs : List Int) (x : Int) (w : World) (h : RdI w A n xs) (hn : n ≤ 1048576) :
    Calls Tryd.prog 17 #[.slice A n c, .int .i64 x] w fun e w' => e = .returned (.bool (decide (x ∈ xs))) ∧ w = w' := by
  have HL := hide h.len
  go_enter Tryd.func17, Tryd.ntmps17
  go_wp2
  go_loop [5] (fun i => ∃ (k : Nat), k ≤ n ∧ i = .int .i64 k ∧ Hid (x ∉ xs.take k)) (fun i => n - (intOf i).toNat)
  case atStart => exact ⟨0, Nat.zero_le _, rfl, by simp [Hid]⟩
  case round =>
    obtain ⟨k, hk, rfl, HC⟩ := hrel
    by_cases hlt : k < n
    · obtain ⟨b, off, y, rfl, hbl, hx, hc, hx1, hx2⟩ := h.at hlt
      by_cases c1 : y = x
      · subst c1
        go_wp2
        go_ret
        exact ⟨ret_bool (decide_eq_true (mem_at hx.out)).symm, rfl⟩
      · have e1 : (y == x) = false := by simpa using c1
        have HN := hide (notmem_snoc hx.out HC.out c1)
        clear c1
        go_wp2
        go_round
        case rel => exact ⟨k + 1, by omega, by go_num, HN⟩
        case measure => simp [intOf]; omega
    · have hkn : k = n := by omega
      subst hkn
      go_wp2
      go_ret
      exact ⟨ret_bool (decide_eq_false (notmem_end HL.out HC.out)).symm, rfl⟩

set_option maxHeartbeats 8000000 in
set_option maxRecDepth 1000000 in
theorem law_Versions (A0 : Option Addr) (n0 c0 : Nat) (bs0 : List Int) (A1 : Option Addr) (n1 c1 : Nat) (bs1 : List Int) (w : World) (ht : TabP w) (h0 : RdY w A0 n0 bs0) (h1 : RdY w A1 n1 bs1) :
    Calls Tryd.prog 3 #[.slice A0 n0 c0, .slice A1 n1 c1] w fun e w' => e = .returned (.bool true) ∧ Below w.heap.size w w' := by
  have LG := hide (r8Long_calls A0 A1 n0 n1 c0 c1 w)
  have H0 := hide h0
  have H1 := hide h1
  have HT := hide ht
  clear h0 h1 ht
  by_cases hn : n0 ≤ 1048576 ∧ n1 ≤ 1048576
  case neg =>
    have e : (!decide (n0 ≤ 1048576) || !decide (n1 ≤ 1048576)) = true := by
      rw [← Bool.not_and, Bool.not_eq_true', Bool.and_eq_false_iff, decide_eq_false_iff_not, decide_eq_false_iff_not]
      omega
    rw [e] at LG
    go_enter Tryd.func3, Tryd.ntmps3
    go_wp2_with fail
    refine LG.out.mono ?_
    rintro e w' ⟨rfl, rfl⟩
    go_wp2
    go_ret
    exact ⟨rfl, Below.refl _ _⟩
  obtain ⟨hn0, hn1⟩ := hn
  rw [decide_eq_true hn0, decide_eq_true hn1] at LG
  have D1 := hide (r8History_calls n0 c0 A0 bs0 w H0.out hn0)
  go_enter Tryd.func3, Tryd.ntmps3
  go_wp2_with fail
  refine LG.out.mono ?_
  rintro e w' ⟨rfl, rfl⟩
  go_wp2_with fail
  refine D1.out.mono ?_
  rintro e w1 ⟨A8, m8, c8, rs, rfl, r8, hh, hsm, hm8, hb1⟩
  have HR8 := hide r8
  have HH := hide (And.intro hh (short_of hsm))
  have hlv : (zV rs).length = m8 := (show RdVz w1 A8 m8 (zV rs) from ⟨rs, r8, rfl⟩).len
  have HLV := hide hlv
  have HB1 := hide hb1
  have D2 := hide (r8State_calls n1 c1 A1 bs1 w1 (H1.out.below hb1 (Nat.le_refl _)) hn1)
  clear r8 hh hsm hb1 D1 LG hlv
  go_wp2_with fail
  refine D2.out.mono ?_
  rintro e w2 ⟨A2, m2, c2, sa, rfl, r2, sm2, hm2, hb2⟩
  have HR8 := hide (HR8.out.below hb2 (Nat.le_refl _))
  have HR2 := hide r2
  have HB2 := hide (HB1.out.trans (hb2.mono HB1.out.size))
  have D3 := hide (r8Changed_calls n0 c0 A0 bs0 A2 m2 c2 sa w2 (H0.out.below HB2.out (Nat.le_refl _)) hn0 r2 sm2)
  have HSa := hide sm2
  clear r2 hb2 D2 sm2 HB1
  go_wp2_with fail
  refine D3.out.mono ?_
  rintro e w3 ⟨A3, m3, c3, sb, rfl, r3, sm3, hm3, hb3⟩
  have HR8 := hide (HR8.out.below hb3 (Nat.le_refl _))
  have HR2 := hide (HR2.out.below hb3 (Nat.le_refl _))
  have HR3 := hide r3
  have HB3 := hide (HB2.out.trans (hb3.mono HB2.out.size))
  have HSb := hide sm3
  obtain ⟨z1, z2, z3⟩ := diff_law HSa.out.state HSb.out.state
  obtain ⟨CS, hCS⟩ : ∃ CS, CS = difR sa sb := ⟨_, rfl⟩
  have D4 := hide (implDiffStates_calls A2 m2 c2 A3 m3 c3 sa sb w3 HR2.out HR3.out (by omega) (by omega))
  unfold DifPost at D4
  rw [z1, ← hCS] at D4
  rw [← hCS] at z2 z3
  have HZ := hide (And.intro z2 z3)
  clear r3 hb3 D3 sm3 HB2 z1 z2 z3 hCS
  go_wp2_with fail
  refine D4.out.mono ?_
  rintro e w4 ⟨A4, m4, c4, rfl, f4, N4, hb4⟩
  have HR8 := hide (HR8.out.below hb4 (Nat.le_refl _))
  have HR2 := hide (HR2.out.below hb4 (Nat.le_refl _))
  have HR3 := hide (HR3.out.below hb4 (Nat.le_refl _))
  have HB4 := hide (HB3.out.trans (hb4.mono HB3.out.size))
  have D5 := hide (implApplyChanges_calls A2 A4 m2 m4 c2 c4 sa CS w4 HR2.out f4.rd (by omega) N4)
  rw [HZ.out.1, HZ.out.2] at D5
  clear f4 hb4 D4 HB3 HZ
  go_wp2_with fail
  refine D5.out.mono ?_
  rintro e w5 ⟨A5, m5, c5, rfl, f5, N5, hb5⟩
  have HR8 := hide (HR8.out.below hb5 (Nat.le_refl _))
  have HR2 := hide (HR2.out.below hb5 (Nat.le_refl _))
  have HR3 := hide (HR3.out.below hb5 (Nat.le_refl _))
  have HB5 := hide (HB4.out.trans (hb5.mono HB4.out.size))
  have S1 := hide (specSameState_calls A5 A3 m5 m3 c5 c3 sb sb w5 f5.rd HR3.out N5 (by omega))
  rw [decide_eq_true (rfl : sb = sb)] at S1
  clear f5 hb5 D5 HB4
  go_wp2_with fail
  refine S1.out.mono ?_
  rintro e w6 ⟨rfl, hj6⟩
  have hb6 := below_of_draws hj6
  have HR8 := hide (HR8.out.below hb6 (Nat.le_refl _))
  have HR2 := hide (HR2.out.below hb6 (Nat.le_refl _))
  have HB6 := hide (HB5.out.trans (hb6.mono HB5.out.size))
  have P1 := hide (r8At_calls A1 n1 c1 0 ((m8 : Int) + 1) bs1 w6 (H1.out.below HB6.out (Nat.le_refl _)) hn1 (by omega) (by unfold I64; omega))
  clear hj6 hb6 S1 HB5 HR3 HSb
  go_wp2_with fail
  refine P1.out.mono ?_
  rintro e w' ⟨p, rfl, hp0, hp255, rfl⟩
  have hp : p ≤ m8 := by omega
  obtain ⟨ws, y1, y2, y3, y4, y5, ⟨us, u1, u2, u3, u4, u5⟩, ⟨up, a1, a2, a3, a4, a5⟩, b1, b2, b3, b4, b5⟩ := vers_law (p := p) HH.out.1 HLV.out hm8 hp HSa.out.state
  obtain ⟨N, hN⟩ : ∃ N, N = m8 + 1 := ⟨_, rfl⟩
  rw [← hN] at y3 u1 u2 u5 a1 a2 a4 b2 b3 b4
  have hu3 : us.length = N + 1 := by omega
  have HN := hide (show (m8 : Int) + 1 = (N : Int) by omega)
  have D6 := hide (implCommitState_calls A8 m8 c8 (zV rs) p nextM A2 m2 c2 sa w6 ⟨rs, HR8.out, rfl⟩ (by unfold I64; omega) (by decide) HR2.out (by omega) (by decide) (by omega) HH.out.2)
  unfold CsPost at D6
  rw [y1, y2] at D6
  unfold nextM at D6
  have HY := hide (And.intro y4 y5)
  have HW := hide y3
  have HU := hide (And.intro u1 (And.intro u2 (And.intro hu3 (And.intro u4 u5))))
  have HA := hide (And.intro a1 (And.intro a2 (And.intro a3 (And.intro a4 a5))))
  have HV := hide (And.intro b1 (And.intro b2 (And.intro b3 (And.intro b4 b5))))
  clear P1 y1 y2 y3 y4 y5 u1 u2 u3 u4 u5 hu3 a1 a2 a3 a4 a5 b1 b2 b3 b4 b5 hp0 hp255
  go_wp2_with fail
  refine D6.out.mono ?_
  rintro e w7 ⟨A6, m6, c6, rfl, f6, N6, hb7⟩
  have hm6 : m6 = N := by rw [← HW.out]; exact f6.rd.len.symm
  subst hm6
  have hNb : m6 ≤ 6 := by omega
  have hNp : m8 < m6 := by omega
  have HNN := hide hN
  clear hN
  have HR8 := hide (HR8.out.below hb7 (Nat.le_refl _))
  have HX := hide f6.rd
  have HSW := hide (hist_short HY.out.1)
  have HB7 := hide (HB6.out.trans (hb7.mono HB6.out.size))
  have D7 := hide (implUndoVersion_calls A6 m6 c6 ws m6 w7 (HT.out.here HB7.out) HX.out (by unfold I64; omega) (by omega) HSW.out)
  unfold UndPost at D7
  rw [HU.out.1, HU.out.2.1] at D7
  clear f6 hb7 D6 HB6 HR2 HSa
  go_wp2_with fail
  rw [HN.out]
  refine D7.out.mono ?_
  rintro e w8 ⟨A7, m7, c7, rfl, f7, N7, hb8⟩
  have HM7 := hide (show m7 = m6 + 1 by rw [← HU.out.2.2.1]; exact f7.rd.len.symm)
  have HR8 := hide (HR8.out.below hb8 (Nat.le_refl _))
  have HX := hide (HX.out.below hb8 (Nat.le_refl _))
  have HQ := hide f7.rd
  have HB8 := hide (HB7.out.trans (hb8.mono HB7.out.size))
  have D8 := hide (implAncestorsOf_calls A6 m6 c6 ws m6 w8 HX.out (by unfold I64; omega) (by omega) HSW.out)
  rw [HA.out.1, HA.out.2.1] at D8
  clear f7 hb8 D7 HB7
  go_wp2_with fail
  refine D8.out.mono ?_
  rintro e w9 ⟨B1, l1, d1, rfl, g1, L1, hb9⟩
  have HR8 := hide (HR8.out.below hb9 (Nat.le_refl _))
  have HX := hide (HX.out.below hb9 (Nat.le_refl _))
  have HQ := hide (HQ.out.below hb9 (Nat.le_refl _))
  have HP := hide (show RdI w9 B1 l1 up from g1.rd)
  have HB9 := hide (HB8.out.trans (hb9.mono HB8.out.size))
  have D9 := hide (implHeadsOf_calls A6 m6 c6 ws w9 HX.out (by omega) HSW.out)
  rw [HV.out.1] at D9
  clear g1 hb9 D8 HB8
  go_wp2_with fail
  refine D9.out.mono ?_
  rintro e w10 ⟨B2, l2, d2, rfl, g2, L2, hb10⟩
  have HR8 := hide (HR8.out.below hb10 (Nat.le_refl _))
  have HX := hide (HX.out.below hb10 (Nat.le_refl _))
  have HQ := hide (HQ.out.below hb10 (Nat.le_refl _))
  have HP := hide (HP.out.below hb10 (Nat.le_refl _))
  have HHD := hide (show RdI w10 B2 l2 (heaR ws) from g2.rd)
  have HB10 := hide (HB9.out.trans (hb10.mono HB9.out.size))
  have E1 := hide (implCommonAncestor_calls A6 m6 c6 ws m6 m6 w10 HX.out (by unfold I64; omega) (by unfold I64; omega) (by omega) HSW.out)
  rw [HV.out.2.2.1, HV.out.2.2.2.1] at E1
  clear g2 hb10 D9 HB9
  go_wp2_with fail
  refine E1.out.mono ?_
  rintro e w11 ⟨rfl, hb11⟩
  have HR8 := hide (HR8.out.below hb11 (Nat.le_refl _))
  have HX := hide (HX.out.below hb11 (Nat.le_refl _))
  have HQ := hide (HQ.out.below hb11 (Nat.le_refl _))
  have HP := hide (HP.out.below hb11 (Nat.le_refl _))
  have HB11 := hide (HB10.out.trans (hb11.mono HB10.out.size))
  have E2 := hide (r8Has_calls B2 l2 d2 (heaR ws) m6 w11 (HHD.out.below hb11 (Nat.le_refl _)) L2)
  rw [decide_eq_true HV.out.2.1] at E2
  have hm7i : (m7 : Int) = (m6 : Int) + 1 := by have := HM7.out; omega
  have E3 := hide (specValidHistory_calls A7 m7 c7 us w11 HQ.out N7 (hist_short HU.out.2.2.2.1))
  rw [HU.out.2.2.2.1] at E3
  clear hb11 E1 HB10 HHD
  go_wp2_with fail
  refine E2.out.mono ?_
  rintro e w' ⟨rfl, rfl⟩
  clear E2
  go_wp2_with fail
  refine E3.out.mono ?_
  rintro e w12 ⟨rfl, hb12⟩
  have HR8 := hide (HR8.out.below hb12 (Nat.le_refl _))
  have HX := hide (HX.out.below hb12 (Nat.le_refl _))
  have HQ := hide (HQ.out.below hb12 (Nat.le_refl _))
  have HP := hide (HP.out.below hb12 (Nat.le_refl _))
  have HB12 := hide (HB11.out.trans (hb12.mono HB11.out.size))
  clear hb12 E3 HB11 hm7i
  go_upto_if 148 with fail
  obtain ⟨wz, hwz⟩ : ∃ wz, wz = w12.alloc (.cells #[] 57) := ⟨_, rfl⟩
  rw [← hwz]
  have hbz : Below w12.heap.size w12 wz := by rw [hwz]; exact (Below.refl _ _).alloc (Nat.le_refl _) _
  have HR8 := hide (HR8.out.below hbz (Nat.le_refl _))
  have HX := hide (HX.out.below hbz (Nat.le_refl _))
  have HQ := hide (HQ.out.below hbz (Nat.le_refl _))
  have HP := hide (HP.out.below hbz (Nat.le_refl _))
  have HB13 := hide (HB12.out.trans (hbz.mono HB12.out.size))
  have hq7 : m6 < m7 := by have := HM7.out; omega
  obtain ⟨rq, hq, hqe⟩ := HQ.out
  obtain ⟨b, off, nu, pa, me, Aq, nq, cq, st, hA7, hbl, hx, hc, hc2, hc3, hc4, hn1', hn2', hp1, hp2, hme, hst, hnq⟩ := hq.at (k := m6) hq7
  have hse : st = stV (zV rs) p := by
    obtain ⟨u, e1, e2⟩ := HU.out.2.2.2.2
    rw [← hqe, zV_at hx.out, Option.some.injEq] at e1
    rw [← e2, ← e1]
    rfl
  rw [hse] at hst
  have hnqs : nq ≤ 1048576 := by
    have := state_len (stV_valid HH.out.1 p)
    have := hst.2.1
    omega
  have HST := hide hst
  clear hwz hbz HB12 hqe hx hst hse HQ hq hc hc2 hc3 hn1' hn2' hp1 hp2 hme hnq
  subst hA7
  go_cut [24] (fun v wx => ∃ Ab nb cb, v = .slice Ab nb cb ∧ nb ≤ 1048576 ∧ Hid (RdS wz Ab nb (stV (zV rs) p)) ∧ wz = wx)
  case first => as_aux_lemma =>
    rcases Nat.eq_zero_or_pos p with h0 | h0
    · subst h0
      clear HST hc4
      go_wp2_with fail
      go_meet
      case rel => exact ⟨_, _, _, rfl, by omega, (show RdS wz _ 0 [] from ⟨Rd.nil, rfl, by simp⟩), rfl⟩
    · obtain ⟨k, rfl⟩ : ∃ k, p = k + 1 := ⟨p - 1, by omega⟩
      have hk8 : k < m8 := by omega
      obtain ⟨b2, off2, nu2, pa2, me2, Ar, nr, cr, sr, hA8, hbl2, hx2, hd, hd2, hd3, hd4, hn1', hn2', hp1, hp2, hme, hsr, hnr⟩ := HR8.out.at (k := k) hk8
      have hse : sr = stV (zV rs) (k + 1) := by
        unfold stV
        rw [if_neg (by omega), show k + 1 - 1 = k from rfl, zV_at hx2.out]
        rfl
      rw [hse] at hsr
      have hnrs : nr ≤ 1048576 := by
        have := state_len (stV_valid HH.out.1 (k + 1))
        have := hsr.2.1
        omega
      have HSR := hide hsr
      have g0 : (0 : Int) < (k : Int) + 1 := by omega
      clear hse hx2 hsr hd hd2 hd3 hn1' hn2' hp1 hp2 hme hnr HR8 h0 HST hc4
      subst hA8
      go_wp2_with fail
      go_meet
      case rel => exact ⟨_, _, _, rfl, hnrs, HSR, rfl⟩
  case rest => as_aux_lemma =>
    obtain ⟨Ab, nb, cb, rfl, hnb, HAB, hwc⟩ := hcut
    subst hwc
    go_upto_region 22 with fail
    go_cut [170] (fun c wx => c = .bool false ∧ Hid (Below wz.heap.size wz wx))
    case first => as_aux_lemma =>
      have S2 := hide (specSameState_calls Aq Ab nq nb cq cb _ _ wz HST.out HAB.out hnqs hnb)
      rw [decide_eq_true (rfl : stV (zV rs) p = stV (zV rs) p)] at S2
      have hne := HA.out.2.2.2.2
      have E5 := hide (fun W (hW : RdI W B1 l1 up) => r8Has_calls B1 l1 d1 up p W hW L1)
      rw [hne] at E5
      clear hne HST HAB
      go_wp2_with fail
      refine S2.out.mono ?_
      rintro e w14 ⟨rfl, hj14⟩
      have HB14 := hide (below_of_draws hj14)
      clear hj14 S2
      by_cases h0 : 0 < p
      · rw [decide_eq_true h0] at E5
        have g0 : decide ((0 : Int) < (p : Int)) = true := decide_eq_true (by omega)
        go_wp2_with fail
        refine (E5.out w14 (HP.out.below HB14.out (Nat.le_refl _))).mono ?_
        rintro e w' ⟨rfl, rfl⟩
        clear E5
        go_wp2_with fail
        go_meet
        case rel => exact ⟨rfl, HB14⟩
      · rw [decide_eq_false h0] at E5
        have g0 : decide ((0 : Int) < (p : Int)) = false := decide_eq_false (by omega)
        go_wp2_with fail
        refine (E5.out w14 (HP.out.below HB14.out (Nat.le_refl _))).mono ?_
        rintro e w' ⟨rfl, rfl⟩
        clear E5
        go_wp2_with fail
        go_meet
        case rel => exact ⟨rfl, HB14⟩
    case rest => as_aux_lemma =>
      obtain ⟨hc170, hB⟩ := hcut
      subst hc170
      have HX := hide (HX.out.below hB.out (Nat.le_refl _))
      have HP := hide (HP.out.below hB.out (Nat.le_refl _))
      have HB14 := hide (HB13.out.trans (hB.out.mono HB13.out.size))
      have HUP := hide (And.intro HA.out.2.2.1 HA.out.2.2.2.1)
      have hlu : up.length = l1 := HP.out.len
      have HLU := hide hlu
      clear hB HR8 HST HB13 HU HA hc4 hlu
      go_wp2
      go_loopw [25] (fun i wr => ∃ (k : Nat), k ≤ l1 ∧ i = .int .i64 k ∧ ∃ j, wr = wc.drewN j) (fun i _ => l1 - (intOf i).toNat)
      case atStart => exact ⟨0, Nat.zero_le _, rfl, 0, rfl⟩
      case round =>
        obtain ⟨k, hk, rfl, hj⟩ := hrel
        obtain ⟨wi, hwi⟩ : ∃ wi, wi = wr := ⟨_, rfl⟩
        rw [← hwi] at hj ⊢
        have HJ := hide hj
        have hri : RdI wi B1 l1 up := by obtain ⟨j, e⟩ := HJ.out; rw [e]; exact HP.out.drewN j
        have HNJ : Hid (∀ m, ∃ j, wi.drewN m = wc.drewN j) := by obtain ⟨j, e⟩ := HJ.out; intro m; exact ⟨_, by rw [e, World.drewN_drewN]⟩
        clear hwi hj
        by_cases hlt : k < l1
        · obtain ⟨b3, off3, y, hA, hbl3, hy, hc, hy1, hy2⟩ := hri.at hlt
          have by1 := HUP.out.2 y (List.mem_of_getElem? hy.out)
          have d1 : decide (y < 1) = false := decide_eq_false (by omega)
          have d2 : decide ((m6 : Int) ≤ y) = false := decide_eq_false (by omega)
          have i1 : (0 : Int) ≤ (k : Int) := by omega
          have i2 : (k : Int) < (l1 : Int) := by omega
          rcases Nat.eq_zero_or_pos k with h0 | h0
          · subst h0
            subst hA
            rw [Nat.add_zero] at hc
            clear hri HJ by1
            go_wp2
            go_quiet (fail)
            go_wp2
            go_roundw
            case rel => exact ⟨1, by omega, by go_num, HNJ.out _⟩
            case measure => simp [intOf]; omega
          · obtain ⟨q, hq⟩ : ∃ q, q + 1 = k := ⟨k - 1, by omega⟩
            obtain ⟨b4, off4, x, hA2, hbl4, hx, hc2, hx1, hx2⟩ := hri.at (show q < l1 by omega)
            have hxy : y < x := by
              obtain ⟨q1, q2⟩ := List.getElem?_eq_some_iff.1 hx.out
              obtain ⟨q3, q4⟩ := List.getElem?_eq_some_iff.1 hy.out
              have := List.pairwise_iff_getElem.1 HUP.out.1 q k q1 q3 (by omega)
              rwa [q2, q4] at this
            subst hA
            obtain ⟨rfl, rfl⟩ : b3 = b4 ∧ off3 = off4 := by simpa using hA2
            have d3 : decide ((0 : Int) < (k : Int)) = true := decide_eq_true (by omega)
            have d4 : decide (x ≤ y) = false := decide_eq_false (by omega)
            have ew : IntKind.i64.wrap ((k : Int) - 1) = (q : Int) := by rw [IntKind.wrap_i64]; omega
            have i3 : (0 : Int) ≤ (q : Int) := by omega
            have i4 : (q : Int) < (l1 : Int) := by omega
            clear hri HJ hA2 hxy hbl3 hbl4 hq by1
            go_wp2
            go_quiet (fail)
            go_wp2
            go_roundw
            case rel => exact ⟨k + 1, by omega, by go_num, HNJ.out _⟩
            case measure => simp [intOf]; omega
        · have hkn : k = l1 := by omega
          subst hkn
          have hbi : Below wc.heap.size wc wi := below_of_draws HJ.out
          have HB15 := hide (HB14.out.trans (hbi.mono HB14.out.size))
          obtain ⟨rq, hq, hqe⟩ := HX.out.below hbi (Nat.le_refl _)
          obtain ⟨b5, off5, nu, pa, me, Av, nv, cv, st, hA6, hbl5, hx, hc, hc2, hc3, hc4, hn1', hn2', hp1, hp2, hme, hst, hnv⟩ := hq.at (k := m8) hNp
          have hrow : (⟨nu, pa, me, st⟩ : VerZ) = ⟨(m8 : Int) + 1, p, nextM, sa⟩ := by
            have e1 := HY.out.2
            rw [← hqe, zV_at hx.out, Option.some.injEq] at e1
            exact e1
          have hnvs : nv ≤ 1048576 := by
            have e1 := hist_short HY.out.1 _ (List.mem_of_getElem? HY.out.2)
            have e2 := hst.2.1
            have e3 : st = sa := congrArg VerZ.state hrow
            rw [e3] at e2
            have e1 : sa.length ≤ 1048576 := e1
            omega
          have VT := hide (implVersionText_calls nu pa me Av nv cv st wi (HT.out.here HB15.out) hst ⟨hn1', hn2'⟩ ⟨hp1, hp2⟩ hme hnvs)
          rw [hrow] at VT
          obtain ⟨T, hT⟩ : ∃ T, T = verT ⟨(m8 : Int) + 1, p, nextM, sa⟩ := ⟨_, rfl⟩
          have ht0 := HV.out.2.2.2.2
          rw [← hT] at VT ht0
          have hTb : T.toList.isEmpty = false := mem_some (by omega)
          obtain rfl : m6 = m8 + 1 := HNN.out
          clear hqe hrow hx hst hT ht0 HNJ HJ hri HUP HLU
          subst hA6
          go_wp2_with fail
          refine VT.out.mono ?_
          rintro e w16 ⟨rfl, hb16⟩
          have HB16 := hide (HB15.out.trans (hb16.mono HB15.out.size))
          clear hb16 VT
          go_wp2
          go_ret
          exact ⟨rfl, HB16.out⟩

end Go.Proofs.YtmpfkmbfbeejhaaDoor

/- The law FnTrends returns true for all arguments: its walk. -/
import Derived.Test.YtmpfkmbfbeejhaaTrdT
import Derived.Test.YtmpfkmbfbeejhaaTopJ
import Derived.Test.YtmpfkmbfbeejhaaDraw26
import Derived.Test.YtmpfkmbfbeejhaaB10
import Derived.Deep.DeepCutAuto
namespace Go.Proofs.Ytmpfkmbfbeejhaa
open Go.RowKit
set_option linter.unusedVariables false

set_option maxHeartbeats 8000000 in
set_option maxRecDepth 1000000 in
theorem law_Trends (A0 : Option Addr) (n0 c0 : Nat) (bs0 : List Int) (A1 : Option Addr) (n1 c1 : Nat) (bs1 : List Int) (w : World) (h0 : RdY w A0 n0 bs0) (h1 : RdY w A1 n1 bs1) :
    Calls Try.prog 4 #[.slice A0 n0 c0, .slice A1 n1 c1] w fun e w' => e = .returned (.bool true) ∧ Below w.heap.size w w' := by
  have hd0 : decide ((1048576 : Int) < n0) = !decide (n0 ≤ 1048576) := by by_cases h : n0 ≤ 1048576 <;> simp [h] <;> omega
  have hd1 : decide ((1048576 : Int) < n1) = !decide (n1 ≤ 1048576) := by by_cases h : n1 ≤ 1048576 <;> simp [h] <;> omega
  have L0 := hide (b10Long_calls A0 n0 c0 w)
  have L1 := hide (b10Long_calls A1 n1 c1 w)
  rw [hd0] at L0
  rw [hd1] at L1
  have H0 := hide h0
  have H1 := hide h1
  clear h0 h1 hd0 hd1
  by_cases hn0 : n0 ≤ 1048576
  case neg =>
    rw [decide_eq_false hn0] at L0
    go_enter Try.func4, Try.ntmps4
    go_wp2_with fail
    refine L0.out.mono ?_
    rintro e w' ⟨rfl, rfl⟩
    go_wp2
    go_ret
    exact ⟨rfl, Below.refl _ _⟩
  rw [decide_eq_true hn0] at L0
  by_cases hn1 : n1 ≤ 1048576
  case neg =>
    rw [decide_eq_false hn1] at L1
    go_enter Try.func4, Try.ntmps4
    go_wp2_with fail
    refine L0.out.mono ?_
    rintro e w' ⟨rfl, rfl⟩
    go_wp2_with fail
    refine L1.out.mono ?_
    rintro e w' ⟨rfl, rfl⟩
    go_wp2
    go_ret
    exact ⟨rfl, Below.refl _ _⟩
  rw [decide_eq_true hn1] at L1
  have T0 := hide (drawTopDays_calls n0 c0 A0 bs0 w H0.out hn0)
  go_enter Try.func4, Try.ntmps4
  go_wp2_with fail
  refine L0.out.mono ?_
  rintro e w' ⟨rfl, rfl⟩
  go_wp2_with fail
  refine L1.out.mono ?_
  rintro e w' ⟨rfl, rfl⟩
  clear L0 L1
  go_wp2_with fail
  refine T0.out.mono ?_
  rintro e w1 ⟨A2, m, c2, xs, y, rfl, f2, hm, hmc, hy, hb1⟩
  have TD := hide (implTopDays_calls A2 m c2 xs y w1 f2.rd hy (by omega))
  have HF2 := hide f2
  have HB1 := hide hb1
  clear T0 f2 hb1
  go_wp2_with fail
  refine TD.out.mono ?_
  rintro e w2 ⟨A3, k3, c3, rfl, f3, N3, hb2⟩
  have HF3 := hide f3
  have HB2 := hide (HB1.out.trans (hb2.mono HB1.out.size))
  have HX2 := hide ((HF2.out.below hb2 (Nat.le_refl _)).rd)
  clear f3 hb2 TD HF2
  obtain ⟨K, hK⟩ : ∃ K, K = topC xs y := ⟨_, rfl⟩
  rw [← hK]
  have HKT := hide hK
  clear hK
  go_upto_if 55 with fail
  go_cut [] (fun wx => Hid (Below w.heap.size w wx))
  case first => as_aux_lemma =>
    --[
    by_cases hk : K = 0
    case neg =>
      have HV := hide (topV_bad (vs := xs) (m := y) (by rw [← HKT.out]; exact hk))
      have hk3 : k3 = 0 := by have := HF3.out.len; rw [HV.out] at this; exact this.symm
      subst hk3
      have hkb : (K == 0) = false := by simpa using hk
      have HK := hide hk
      clear hk
      go_wp2_with fail
      go_meet
      case rel => exact HB2.out
    subst hk
    obtain ⟨hok, hy0, hy1⟩ := topC_ok HKT.out.symm
    obtain ⟨F, rfl⟩ : ∃ F : Nat, y = F := ⟨y.toNat, by omega⟩
    have hlx : xs.length = m := HX2.out.len
    have hV : topV xs F = topZ xs F := by rw [topV_ok HKT.out.symm, Int.toNat_natCast]
    have hk3 : k3 = F := by
      have := HF3.out.len
      rw [hV, topZ_len (by omega)] at this
      exact this.symm
    subst hk3
    have hf3 := HF3.out
    rw [hV] at hf3
    have HT3 := hide hf3.rd
    have HOK := hide hok
    have HLX := hide hlx
    have hFm : k3 ≤ m := by omega
    have HR := hide (b10Rises_calls A3 k3 c3 m (topZ xs k3) w2 hf3.rd (by omega) (fun x hx => by have := topZ_bound hx; omega) (topZ_rise xs k3))
    clear hok hlx hV hf3 hy0 hy1 HF3 HKT hy
    go_wp2_with fail
    refine HR.out.mono ?_
    rintro e w3 ⟨rfl, hj3⟩
    have HJ3 := hide hj3
    have hb3 := below_of_draws hj3
    have HX3 := hide (HX2.out.below hb3 (Nat.le_refl _))
    have HT4 := hide (HT3.out.below hb3 (Nat.le_refl _))
    have HB3 := hide (HB2.out.trans (hb3.mono HB2.out.size))
    clear hj3 hb3 HR HT3 HX2 HB2 HJ3
    go_wp2_with fail
    go_loopw [9, 10] (fun i _ wr => ∃ q : Nat, q ≤ k3 ∧ i = .int .i64 q ∧ ∃ j, wr = w3.drewN j) (fun i _ _ => k3 - (intOf i).toNat)
    case atStart => exact ⟨0, Nat.zero_le _, rfl, 0, rfl⟩
    case round => as_aux_lemma =>
      obtain ⟨q, hq, rfl, hj⟩ := hrel
      obtain ⟨wq, hwq⟩ : ∃ wq, wq = wr := ⟨_, rfl⟩
      rw [← hwq] at hj ⊢
      have HXq := hide (show RdI wq A2 m xs by obtain ⟨j, e⟩ := hj; rw [e]; exact HX3.out.drewN j)
      have HTq := hide (show RdI wq A3 k3 (topZ xs k3) by obtain ⟨j, e⟩ := hj; rw [e]; exact HT4.out.drewN j)
      have HNq := hide (show ∀ p, ∃ j, wq.drewN p = w3.drewN j by obtain ⟨j, e⟩ := hj; intro p; exact ⟨_, by rw [e, World.drewN_drewN]⟩)
      clear hwq hj
      by_cases hqk : q < k3
      ·
        --[
        obtain ⟨bt, ot, t, hAt, hbt, ht, hct, ht1, ht2⟩ := HTq.out.at hqk
        subst hAt
        have htm := List.mem_of_getElem? ht.out
        have htb := topZ_bound htm
        rw [HLX.out] at htb
        obtain ⟨tn, rfl⟩ : ∃ tn : Nat, t = tn := ⟨t.toNat, by omega⟩
        have htn : tn < m := by omega
        obtain ⟨bx, ox, vt, hAx, hbx, hvt, hcx, hvt1, hvt2⟩ := HXq.out.at htn
        subst hAx
        have HTM := hide htm
        have HCT := hide hct
        have HCX := hide hcx
        have HVT := hide (valI_at hvt.out)
        clear htm hct hcx htb hbt hbx ht1 ht2 hvt1 hvt2 hvt ht
        go_wp2_with fail
        go_loopw [10] (fun k wr => ∃ p : Nat, p ≤ m ∧ k = .int .i64 p ∧ ∃ j, wr = wq.drewN j) (fun k _ => m - (intOf k).toNat)
        case atStart => exact ⟨0, Nat.zero_le _, rfl, 0, rfl⟩
        case round => as_aux_lemma =>
          obtain ⟨p, hp, rfl, hj⟩ := hrel
          obtain ⟨wp, hwp⟩ : ∃ wp, wp = wr := ⟨_, rfl⟩
          rw [← hwp] at hj ⊢
          have HXp := hide (show RdI wp (some ⟨bx, ox, none⟩) m xs by obtain ⟨j, e⟩ := hj; rw [e]; exact HXq.out.drewN j)
          have HTp := hide (show RdI wp (some ⟨bt, ot, none⟩) k3 (topZ xs k3) by obtain ⟨j, e⟩ := hj; rw [e]; exact HTq.out.drewN j)
          have HNp := hide (show ∀ z, ∃ j, wp.drewN z = wq.drewN j by obtain ⟨j, e⟩ := hj; intro z; exact ⟨_, by rw [e, World.drewN_drewN]⟩)
          have hct : wp.cell? ⟨bt, ot + q, none⟩ = some (.int .i64 (tn : Int)) := by obtain ⟨j, e⟩ := hj; rw [e]; exact HCT.out
          have hcx : wp.cell? ⟨bx, ox + tn, none⟩ = some (.int .i64 vt) := by obtain ⟨j, e⟩ := hj; rw [e]; exact HCX.out
          clear hwp hj
          by_cases hpm : p < m
          · obtain ⟨bx2, ox2, vp, hAx, _, hvp, hcp, _, _⟩ := HXp.out.at hpm
            obtain ⟨rfl, rfl⟩ : bx = bx2 ∧ ox = ox2 := by simpa using hAx
            have HVP := hide (valI_at hvp.out)
            have HCL := hide fun (z : Nat) => Calls.quiet_of_same ((b10Has_calls (some ⟨bt, ot, none⟩) k3 c3 (topZ xs k3) p (wp.drewN z) (HTp.out.drewN z) (by omega)).mono fun _ _ hh => ⟨hh.1, hh.2.symm⟩)
            have i1 : (0 : Int) ≤ (p : Int) := by omega
            have i2 : (p : Int) < (m : Int) := by omega
            have i3 : (0 : Int) ≤ (q : Int) := by omega
            have i4 : (q : Int) < (k3 : Int) := by omega
            have i5 : (0 : Int) ≤ (tn : Int) := by omega
            have i6 : (tn : Int) < (m : Int) := by omega
            clear hAx hvp
            by_cases hin : (p : Int) ∈ topZ xs k3
            · rw [decide_eq_true hin] at HCL
              clear hin
              go_wp2
              go_quiet ((go_at_call 15; exact HCL.out _))
              go_wp2
              go_roundw
              case rel => exact ⟨p + 1, by omega, by go_num, HNp.out _⟩
              case measure => simp [intOf]; omega
            · rw [decide_eq_false hin] at HCL
              have hah := topZ_best HTM.out i1 (by rw [HLX.out]; exact i2) hin
              unfold Ahd at hah
              rw [HVT.out, HVP.out] at hah
              have d1 : decide (vt < vp) = false := decide_eq_false (by omega)
              clear hin
              by_cases heq : vp = vt
              · have d2 : (vp == vt) = true := by simpa using heq
                have d3 : decide ((p : Int) < (tn : Int)) = false := decide_eq_false (by omega)
                have d4 : decide (p < tn) = false := decide_eq_false (by omega)
                have d5 : ¬ p < tn := by omega
                clear hah heq
                go_wp2
                go_quiet ((go_at_call 15; exact HCL.out _))
                go_wp2
                go_roundw
                case rel => exact ⟨p + 1, by omega, by go_num, HNp.out _⟩
                case measure => simp [intOf]; omega
              · have d2 : (vp == vt) = false := by simpa using heq
                clear hah heq
                go_wp2
                go_quiet ((go_at_call 15; exact HCL.out _))
                go_wp2
                go_roundw
                case rel => exact ⟨p + 1, by omega, by go_num, HNp.out _⟩
                case measure => simp [intOf]; omega
          · have hpe : p = m := by omega
            subst hpe
            have HW9 := hide (show ∃ j, wp = w3.drewN j by have := HNp.out 0; obtain ⟨j, e⟩ := this; obtain ⟨j2, e2⟩ := HNq.out j; exact ⟨j2, (show wp = wq.drewN j from e).trans e2⟩)
            clear hct hcx
            go_wp2
            go_roundw
            case rel => exact ⟨q + 1, by omega, by go_num, HW9.out⟩
            case measure => simp [intOf]; omega
        --]
      · have hw9 : ∃ j, wq = w3.drewN j := HNq.out 0
        have hb9 := below_of_draws hw9
        have HB9 := hide (HB3.out.trans (hb9.mono HB3.out.size))
        obtain ⟨f0, dd, ss, e1, e2, e3, e4, e5, e6, e7, e8, e9, e10, hrise⟩ := best_law HOK.out
        rw [HLX.out] at e8
        have HRI := hide hrise
        have BR := hide (implBestRun_calls A2 m c2 xs wq HXq.out (by omega))
        rw [e1, e2, e3] at BR
        have SG := hide (fun W (hW : RdI W A2 m xs) => implSameSigns_calls A2 A2 m m c2 c2 xs xs W hW hW (by omega) (by omega))
        rw [e4, e5, e6] at SG
        have hq60 : m ≤ 61 := hm
        clear HNq hw9 hb9 e1 e2 e3 e4 e5 e6 hrise HX3 HT4 HTq HB3
        go_wp2_with fail
        refine BR.out.mono ?_
        rintro e w4 ⟨rfl, hj4⟩
        have hb4 := below_of_draws hj4
        have HX5 := hide (HXq.out.below hb4 (Nat.le_refl _))
        have HB5 := hide (HB9.out.trans (hb4.mono HB9.out.size))
        clear hj4 hb4 BR HXq HB9
        go_wp2_with fail
        refine (SG.out w4 HX5.out).mono ?_
        rintro e w5 ⟨rfl, hj5⟩
        have hb5 := below_of_draws hj5
        have HX6 := hide (HX5.out.below hb5 (Nat.le_refl _))
        have HB6 := hide (HB5.out.trans (hb5.mono HB5.out.size))
        clear hj5 hb5 SG HX5 HB5
        have g1 : ¬ (f0 : Int) < 0 := by omega
        have g2 : ¬ (dd : Int) < 1 := by omega
        have g3 : ¬ (m : Int) < (f0 : Int) + (dd : Int) := by omega
        have g4 : ¬ (ss : Int) < (dd : Int) - 1 := by omega
        go_wp2_with fail
        go_loopw [17] (fun i wr => ∃ r : Nat, f0 + 1 ≤ r ∧ r ≤ f0 + dd ∧ i = .int .i64 r ∧ ∃ j, wr = w5.drewN j) (fun i _ => f0 + dd - (intOf i).toNat)
        case atStart => exact ⟨f0 + 1, Nat.le_refl _, by omega, by go_num, 0, rfl⟩
        case round => as_aux_lemma =>
          obtain ⟨r, hr1, hr2, rfl, hj⟩ := hrel
          obtain ⟨w6, hw6⟩ : ∃ w6, w6 = wr := ⟨_, rfl⟩
          rw [← hw6] at hj ⊢
          have HX7 := hide (show RdI w6 A2 m xs by obtain ⟨j, e⟩ := hj; rw [e]; exact HX6.out.drewN j)
          have HN6 := hide (show ∀ z, ∃ j, w6.drewN z = w5.drewN j by obtain ⟨j, e⟩ := hj; intro z; exact ⟨_, by rw [e, World.drewN_drewN]⟩)
          have HJ6 := hide hj
          clear hw6 hj
          by_cases hrd : r < f0 + dd
          · obtain ⟨p, hp⟩ : ∃ p, p + 1 = r := ⟨r - 1, by omega⟩
            obtain ⟨b, off, y, hA, _, hy, hcy, _, _⟩ := HX7.out.at (show r < m by omega)
            obtain ⟨b2, off2, x, hA2, _, hx, hcx, _, _⟩ := HX7.out.at (show p < m by omega)
            have hlt := HRI.out r (by omega) hrd
            rw [show r - 1 = p by omega, List.getD_eq_getElem?_getD, List.getD_eq_getElem?_getD, hy.out, hx.out] at hlt
            simp only [Option.getD_some] at hlt
            subst hA
            obtain ⟨rfl, rfl⟩ : b = b2 ∧ off = off2 := by simpa using hA2
            have d1 : decide (y ≤ x) = false := decide_eq_false (by omega)
            have ew : IntKind.i64.wrap ((r : Int) - 1) = (p : Int) := by rw [IntKind.wrap_i64]; omega
            have i1 : (0 : Int) ≤ (r : Int) := by omega
            have i2 : (r : Int) < (m : Int) := by omega
            have i3 : (0 : Int) ≤ (p : Int) := by omega
            have i4 : (p : Int) < (m : Int) := by omega
            have i5 : (r : Int) < (f0 : Int) + (dd : Int) := by omega
            clear hA2 hlt hp hy hx HX7
            go_wp2
            go_quiet (fail)
            go_wp2
            go_roundw
            case rel => exact ⟨r + 1, by omega, by omega, by go_num, HN6.out _⟩
            case measure => simp [intOf]; omega
          · have hre : ¬ (r : Int) < (f0 : Int) + (dd : Int) := by omega
            have hb6 := below_of_draws HJ6.out
            have HB7 := hide (HB6.out.trans (hb6.mono HB6.out.size))
            obtain ⟨k1, k2⟩ := week_law HOK.out
            have WK := hide (implWeekMeans_calls A2 m c2 xs 3 w6 HX7.out (by unfold I64; omega) (by omega))
            rw [k1] at WK
            have HK2 := hide k2
            have GR := hide (fun W (hW : RdI W A2 m xs) => implGrowthTo_calls A2 A2 m m c2 c2 xs xs W hW hW (by omega) (by omega))
            obtain ⟨q1, q2⟩ := grow_law HOK.out
            rw [q1] at GR
            have HQ2 := hide q2
            clear k1 k2 q1 q2 HB6 hb6 HN6 HJ6 HX6
            go_wp2_with fail
            refine WK.out.mono ?_
            rintro e w7 ⟨A4, k4, c4, rfl, f4, N4, hb7⟩
            have hk4 : k4 = 7 := by rw [← f4.len]; exact HK2.out
            subst hk4
            have HX8 := hide (HX7.out.below hb7 (Nat.le_refl _))
            have HB8 := hide (HB7.out.trans (hb7.mono HB7.out.size))
            clear f4 hb7 WK HX7 HB7
            go_wp2_with fail
            refine (GR.out w7 HX8.out).mono ?_
            rintro e w8 ⟨rfl, hj8⟩
            have hb8 := below_of_draws hj8
            have HX9 := hide (HX8.out.below hb8 (Nat.le_refl _))
            have HB10 := hide (HB8.out.trans (hb8.mono HB8.out.size))
            clear hj8 hb8 GR HX8 HB8
            have SM := hide (b10Sum_calls A2 m c2 xs w8 HX9.out (by omega) (ok_small HOK.out))
            rcases HQ2.out with ⟨e1, e2⟩ | ⟨e1, e2⟩
            · rw [e2] at SM
              rw [e1]
              clear e1 e2
              go_wp2_with fail
              refine SM.out.mono ?_
              rintro e w9 ⟨rfl, rfl⟩
              go_wp2_with fail
              go_meet
              case rel => exact HB10.out
            · obtain ⟨sm, hsm⟩ : ∃ sm, sm = sumZ xs := ⟨_, rfl⟩
              rw [← hsm] at SM e2
              rw [e1]
              clear e1 hsm
              go_wp2_with fail
              refine SM.out.mono ?_
              rintro e w9 ⟨rfl, rfl⟩
              go_wp2_with fail
              go_meet
              case rel => exact HB10.out
    --]
  case rest => as_aux_lemma =>
    have HC1 := hide hcut.out
    have h1 := H1.out.below HC1.out (Nat.le_refl _)
    have D1 := hide (drawHistogram_calls n1 c1 A1 bs1 wc (h1) hn1)
    clear hcut h1
    go_wp2_with fail
    refine D1.out.mono ?_
    rintro e w10 ⟨A5, m5, c5, zs, st, rfl, f5, hm5, hmc5, hst, hb10⟩
    have HI := hide (implHistogram_calls A5 m5 c5 zs st w10 f5.rd hst (by omega))
    have HZL := hide f5.rd.len
    have HB10 := hide (HC1.out.trans (hb10.mono HC1.out.size))
    clear f5 hb10 D1 HC1
    go_wp2_with fail
    refine HI.out.mono ?_
    rintro e w11 ⟨A6, k6, c6, rfl, f6, N6, hb11⟩
    have HF6 := hide f6.rd
    have HB11 := hide (HB10.out.trans (hb11.mono HB10.out.size))
    obtain ⟨J, hJ⟩ : ∃ J, J = hiC zs st := ⟨_, rfl⟩
    rw [← hJ]
    have HJT := hide hJ
    clear f6 hb11 HI HB10 hJ
    go_upto_if 228 with fail
    go_cut [] (fun wx => Hid (Below w.heap.size w wx))
    case first => as_aux_lemma =>
      --[
      by_cases hj0 : J = 0
      case neg =>
        have hjb : (J == 0) = false := by simpa using hj0
        clear hj0
        go_wp2_with fail
        go_meet
        case rel => exact HB11.out
      subst hj0
      obtain ⟨l1, l2, l3, l4, l5, l6⟩ := hist_law HJT.out.symm
      have hkl := HF6.out.len
      rw [hkl] at l3 l4 l6
      have SM := hide (b10Sum_calls A6 k6 c6 (hiV zs st) w11 HF6.out N6 (fun x hx => by have := l5 x hx; omega))
      rw [l2, HZL.out] at SM
      obtain ⟨p, hp⟩ : ∃ p, p + 1 = k6 := ⟨k6 - 1, by omega⟩
      obtain ⟨b, off, v, hA, _, hv, hcv, _, _⟩ := HF6.out.at (show p < k6 by omega)
      rw [show k6 - 1 = p by omega, List.getD_eq_getElem?_getD, hv.out] at l6
      simp only [Option.getD_some] at l6
      subst hA
      have g1 : ¬ v < 1 := by omega
      have g2 : ¬ k6 = 0 := by omega
      have g2b : ((k6 : Int) == 0) = false := by rw [beq_eq_false_iff_ne]; omega
      have ew : (k6 : Int) - 1 = (p : Int) := by omega
      have i3 : (0 : Int) ≤ (p : Int) := by omega
      have i4 : (p : Int) < (k6 : Int) := by omega
      clear l1 l2 l3 l4 l5 l6 hkl hp hv
      go_wp2_with fail
      refine SM.out.mono ?_
      rintro e w12 ⟨rfl, rfl⟩
      go_wp2_with fail
      go_meet
      case rel => exact HB11.out
      --]
    case rest => as_aux_lemma =>
      have HC2 := hide hcut.out
      have T1 := hide (drawTrendOf_calls n0 c0 A0 bs0 wc (H0.out.below HC2.out (Nat.le_refl _)) hn0)
      clear hcut HF6 HZL
      go_wp2_with fail
      refine T1.out.mono ?_
      rintro e w13 ⟨A7, m7, c7, ys, rfl, f7, hm7, hmc7, hb13⟩
      have HY1 := hide f7.rd
      have HB13 := hide (HC2.out.trans (hb13.mono HC2.out.size))
      have TR := hide (implTrendOf_calls A7 m7 c7 ys w13 f7.rd (by omega))
      clear f7 hb13 T1 HC2
      rcases tr_cases ys with ⟨e1, e2, e3⟩ | ⟨e1, e2, e3, e4, e5⟩
      · rw [e2, e3] at TR
        obtain ⟨q, hq⟩ : ∃ q, q = trC ys := ⟨_, rfl⟩
        rw [← hq] at TR e1
        clear hq e2 e3
        go_wp2_with fail
        refine TR.out.mono ?_
        rintro e w14 ⟨rfl, hj14⟩
        have HB14 := hide (HB13.out.trans ((below_of_draws hj14).mono HB13.out.size))
        clear hj14 TR HB13
        go_wp2
        go_ret
        exact ⟨rfl, HB14.out⟩
      · have hl7 : ys.length = m7 := HY1.out.len
        obtain ⟨p, D, x1, x2, x3, x4, x5, x6, x7, x8⟩ := line_law e2 hl7 (by omega)
        have hs := slope_bds e2 hl7 (by omega)
        have ht := start_bd e2 hl7 (by omega)
        have hrev := tr_ok (xs := ys.reverse) (by rw [okSer_rev]; exact e2) (by rw [List.length_reverse]; exact e3)
        have hsr := tSlope_rev e3 (ok_len e2).2
        have HSM := hide (ok_small e2)
        have hsum := okSer_sum e2
        have hall := hide (fun x (hx : x ∈ ys) => HY1.out.2 x hx)
        rw [e1, e4, e5] at TR
        obtain ⟨sl, hsl⟩ : ∃ q, q = tSlope ys := ⟨_, rfl⟩
        obtain ⟨st2, hst2⟩ : ∃ q, q = tStart ys := ⟨_, rfl⟩
        rw [hsr] at hrev
        obtain ⟨r2, hr2⟩ : ∃ q, q = tStart ys.reverse := ⟨_, rfl⟩
        rw [← hsl] at TR x1 hs hrev
        rw [← hst2] at TR x2 ht
        rw [← hr2] at hrev
        obtain ⟨W, hW⟩ : ∃ q, q = nearZ (2000 * sumZ ys) m7 := ⟨_, rfl⟩
        rw [← hW] at x7 x8
        obtain ⟨sm, hsm⟩ : ∃ q, q = sumZ ys := ⟨_, rfl⟩
        rw [← hsm] at hsum hW
        have HL7 := hide hl7
        have HX1 := hide (And.intro x1 x2)
        have HW2 := hide hW
        have HSUM := hide hsm
        have HREV := hide hrev
        have hm2 : 2 ≤ m7 := by omega
        have y1 := hs.1
        have y2 := ht
        clear e1 e2 e3 e4 e5 hrev hsr hsl hst2 hr2 hW hsm x1 x2 hl7 hs ht
        go_wp2_with fail
        refine TR.out.mono ?_
        rintro e w14 ⟨rfl, hj14⟩
        have hb14 := below_of_draws hj14
        have HB14 := hide (HB13.out.trans (hb14.mono HB13.out.size))
        have HY2 := hide (HY1.out.below hb14 (Nat.le_refl _))
        clear hj14 hb14 TR HB13 HY1
        have hin0 := World.ownsRow_lit (base := w14.heap.size) (e := 2) (size := 1) w14 #[] 0 (Nat.le_refl _) (by simp) rfl
        go_wp2_with fail
        go_loopw [30, 31] (fun v i wr => ∃ k : Nat, k ≤ m7 ∧ i = .int .i64 k ∧ wr.ownsRow w14.heap.size 2 1 v k (cI (ys.reverse.take k)) ∧ Below w14.heap.size w14 wr) (fun _ i _ => m7 - (intOf i).toNat)
        case atStart => exact ⟨0, by omega, rfl, by simpa [cI] using hin0, (Below.refl _ _).alloc (Nat.le_refl _) _⟩
        case round => as_aux_lemma =>
          clear hin0
          obtain ⟨k, hk, rfl, hown, hb⟩ := hrel
          have HO := hide hown
          clear hown
          have hbs := hb.size
          by_cases hlt : k < m7
          · obtain ⟨q, hq⟩ : ∃ q, q + k + 1 = m7 := ⟨m7 - 1 - k, by omega⟩
            obtain ⟨b, off, x, rfl, hbl, hx, hc0, _, _⟩ := HY2.out.at (show q < m7 by omega)
            have hc := (hb.cell (p := ⟨b, off + q, none⟩) hbl).trans hc0
            have HE := hide (rev_snoc HL7.out hlt (by rw [show m7 - 1 - k = q by omega]; exact hx.out))
            have ew : (m7 : Int) - 1 - (k : Int) = (q : Int) := by omega
            have i1 : (0 : Int) ≤ (q : Int) := by omega
            have i2 : (q : Int) < (m7 : Int) := by omega
            clear hq hc0 hx
            go_wp2_with (at_builtin; refine appI rfl _ _ rfl w14.heap.size u30 k (ys.reverse.take k) x rfl HO.out rfl (by omega) (by omega) ?_; intro v4 w4 hown4 hb4 hz4)
            go_roundw
            case rel => exact ⟨k + 1, by omega, by go_num, by rw [HE.out]; exact hown4, hb.trans hb4⟩
            case measure => simp [intOf]; omega
          · have hkn : k = m7 := by omega
            subst hkn
            have ho := HO.out
            rw [List.take_of_length_le (by rw [List.length_reverse, HL7.out]; exact Nat.le_refl _)] at ho
            obtain ⟨A9, c9, hv⟩ := own_slice ho
            have HV9 := hide hv
            have hrd : RdI wr A9 k ys.reverse := RdI.of_own (by rw [← hv]; exact ho) (fun x hx => hall.out x (List.mem_reverse.1 hx))
            have TR2 := hide (implTrendOf_calls A9 k c9 ys.reverse wr hrd (by omega))
            rw [HREV.out.1, HREV.out.2.1, HREV.out.2.2] at TR2
            have HY3 := hide (HY2.out.below hb (Nat.le_refl _))
            have HB15 := hide (HB14.out.trans (hb.mono HB14.out.size))
            clear hv hrd ho
            rw [HV9.out]
            go_wp2_with fail
            refine TR2.out.mono ?_
            rintro e w16 ⟨rfl, hj16⟩
            have hb16 := below_of_draws hj16
            have HY4 := hide (HY3.out.below hb16 (Nat.le_refl _))
            have HB16 := hide (HB15.out.trans (hb16.mono HB15.out.size))
            have SM := hide (b10Sum_calls A7 k c7 ys w16 HY4.out (by omega) HSM.out)
            rw [← HSUM.out] at SM
            have DV := hide (b10Div_calls (2000 * sm) k w16 (by omega) (by omega) (by omega) (by omega))
            rw [← HW2.out] at DV
            have AB := hide (b10Abs_calls (D - W) w16 (by omega) (by omega))
            have ab1 : absZ (D - W) ≤ 2100 := by unfold absZ; split <;> omega
            obtain ⟨av, hav⟩ : ∃ q, q = absZ (D - W) := ⟨_, rfl⟩
            rw [← hav] at AB ab1
            clear hav hj16 hb16 HY3 HB15 hb HO TR2 HV9 HY2 HB14
            have z0 : wrap64 (sl * ((k : Int) - 1)) = p := by rw [HX1.out.1]; unfold wrap64; omega
            have z1 : wrap64 (st2 * 2000 + wrap64 (sl * ((k : Int) - 1))) = D := by
              rw [z0]
              have := HX1.out.2
              unfold wrap64; omega
            have HZ1 := hide z1
            clear z0 z1
            go_wp2_with fail
            rw [HZ1.out]
            refine SM.out.mono ?_
            rintro e w17 ⟨rfl, rfl⟩
            go_wp2_with fail
            refine DV.out.mono ?_
            rintro e w17 ⟨rfl, rfl⟩
            go_wp2_with fail
            refine AB.out.mono ?_
            rintro e w17 ⟨rfl, rfl⟩
            go_wp2
            go_ret
            exact ⟨rfl, HB16.out⟩

end Go.Proofs.Ytmpfkmbfbeejhaa

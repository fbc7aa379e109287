/- The law FnStatistics returns true for all arguments: its walk. -/
import Derived.Test.YtcclfmapbgdpdaaGreatDoorStaL
import Derived.Test.YtcclfmapbgdpdaaGreatDoorSerL
import Derived.Test.YtcclfmapbgdpdaaGreatDoorDraw26
import Derived.Test.YtcclfmapbgdpdaaGreatDoorB10
import Derived.Deep.DeepCutAuto
namespace Go.Proofs.YtcclfmapbgdpdaaGreatDoor
open Go.RowKit
set_option linter.unusedVariables false

/-- What is filled is small. -/
theorem fill_sm {xs ms : List Int} {i : Nat} (h : okSer xs = true) (hi : i < xs.length) (hm : (i : Int) ∈ ms) : -3000000 ≤ fillZ xs ms i ∧ fillZ xs ms i ≤ 3000000 := by
  have h60 := (ok_len h).2
  have hall := ok_mem h
  have hl := lowZ_bd ms i
  have hh := higZ_bd ms xs.length (xs.length - (i + 1)) (by omega)
  unfold fillZ
  rw [lowZ_yes hm, higZ_yes hi hm]
  generalize lowZ ms i = l at *
  generalize higZ ms xs.length (xs.length - (i + 1)) = g at *
  have g1 := getD_bd hall g.toNat
  have g2 := getD_bd hall l.toNat
  split
  · omega
  · split
    · omega
    · obtain ⟨l', rfl⟩ : ∃ l' : Nat, l = l' := ⟨l.toNat, by omega⟩
      obtain ⟨g', rfl⟩ : ∃ g' : Nat, g = g' := ⟨g.toNat, by omega⟩
      have := blend_bd g2 g1 (i := i) (l := l') (h := g') (by omega) (by omega) (by omega)
      omega
theorem fill_small {xs ms : List Int} (h : okSer xs = true) : ∀ x ∈ fillP xs ms (fun j => decide ((j : Int) ∈ ms)), -3000000 ≤ x ∧ x ≤ 3000000 := by
  intro x hm
  obtain ⟨i, hi, rfl⟩ := List.getElem_of_mem hm
  rw [fillP_len] at hi
  simp only [fillP, List.getElem_mapIdx]
  split
  · next hp => exact fill_sm h hi (of_decide_eq_true hp)
  · have := ok_mem h _ (List.getElem_mem hi)
    omega
theorem getD_of {ys : List Int} {k : Nat} {y : Int} (h : ys[k]? = some y) : ys.getD k 0 = y := by rw [List.getD_eq_getElem?_getD, h]; rfl
theorem fiC_okser {xs ms : List Int} (h : fiC xs ms = 0) : okSer xs = true := by
  cases ho : okSer xs
  · rw [fiC_bad ho] at h; exact absurd h (by decide)
  · rfl
theorem countP_snoc {xs : List Int} {k : Nat} {x : Int} {p : Int → Bool} (h : xs[k]? = some x) : (xs.take (k + 1)).countP p = (xs.take k).countP p + (if p x = true then 1 else 0) := by
  rw [take_snoc h, List.countP_append, List.countP_singleton]

/-- A round of the running bounds and counts. -/
theorem stat_step {xs : List Int} {k l g : Nat} {x0 x lo hi D : Int} (hx : xs[k]? = some x) (hb : 0 < k → ∀ y ∈ xs.take k, lo ≤ y ∧ y ≤ hi) (hz : k = 0 → lo = x0 ∧ hi = x0) (hc : l = (xs.take k).countP (fun x => decide (x < D)) ∧ g = (xs.take k).countP (fun x => decide (D < x))) :
    (0 < k + 1 → ∀ y ∈ xs.take (k + 1), min lo x ≤ y ∧ y ≤ max hi x) ∧ (xs.take (k + 1)).countP (fun x => decide (x < D)) = l + (if x < D then 1 else 0) ∧ (xs.take (k + 1)).countP (fun x => decide (D < x)) = g + (if D < x then 1 else 0) := by
  refine ⟨fun _ y hy => ?_, ?_, ?_⟩
  · rw [take_snoc hx, List.mem_append] at hy
    rcases hy with hy | hy
    · rcases Nat.eq_zero_or_pos k with h0 | h0
      · subst h0; simp at hy
      · have := hb h0 y hy
        omega
    · obtain rfl : y = x := by simpa using hy
      omega
  · rw [countP_snoc hx, hc.1]; simp only [decide_eq_true_eq]
  · rw [countP_snoc hx, hc.2]; simp only [decide_eq_true_eq]

set_option maxHeartbeats 8000000 in
set_option maxRecDepth 1000000 in
theorem law_Statistics (A0 : Option Addr) (n0 c0 : Nat) (bs0 : List Int) (A1 : Option Addr) (n1 c1 : Nat) (bs1 : List Int) (w : World) (ht : TabPME w) (h0 : RdY w A0 n0 bs0) (h1 : RdY w A1 n1 bs1) :
    Calls Tryz.prog 3 #[.slice A0 n0 c0, .slice A1 n1 c1] w fun e w' => e = .returned (.bool true) ∧ Below w.heap.size w w' := by
  have hd0 : decide ((1048576 : Int) < n0) = !decide (n0 ≤ 1048576) := by by_cases h : n0 ≤ 1048576 <;> simp [h] <;> omega
  have hd1 : decide ((1048576 : Int) < n1) = !decide (n1 ≤ 1048576) := by by_cases h : n1 ≤ 1048576 <;> simp [h] <;> omega
  have L0 := hide (b10Long_calls A0 n0 c0 w)
  have L1 := hide (b10Long_calls A1 n1 c1 w)
  rw [hd0] at L0
  rw [hd1] at L1
  have H0 := hide h0
  have H1 := hide h1
  have HT := hide ht
  clear h0 h1 hd0 hd1 ht
  by_cases hn0 : n0 ≤ 1048576
  case neg =>
    rw [decide_eq_false hn0] at L0
    go_enter Tryz.func3, Tryz.ntmps3
    go_wp2_with fail
    refine L0.out.mono ?_
    rintro e w' ⟨rfl, rfl⟩
    go_wp2
    go_ret
    exact ⟨rfl, Below.refl _ _⟩
  rw [decide_eq_true hn0] at L0
  by_cases hn1 : n1 ≤ 1048576
  case neg =>
    rw [decide_eq_false hn1] at L1
    go_enter Tryz.func3, Tryz.ntmps3
    go_wp2_with fail
    refine L0.out.mono ?_
    rintro e w' ⟨rfl, rfl⟩
    go_wp2_with fail
    refine L1.out.mono ?_
    rintro e w' ⟨rfl, rfl⟩
    go_wp2
    go_ret
    exact ⟨rfl, Below.refl _ _⟩
  rw [decide_eq_true hn1] at L1
  have T0 := hide (drawMovingMeans_calls n0 c0 A0 bs0 w H0.out hn0)
  go_enter Tryz.func3, Tryz.ntmps3
  go_wp2_with fail
  refine L0.out.mono ?_
  rintro e w' ⟨rfl, rfl⟩
  go_wp2_with fail
  refine L1.out.mono ?_
  rintro e w' ⟨rfl, rfl⟩
  clear L0 L1
  go_wp2_with fail
  refine T0.out.mono ?_
  rintro e w1 ⟨A2, m, c2, xs, y, rfl, f2, hm, hmc, hy, hb1⟩
  obtain ⟨K, hK⟩ : ∃ K, K = okCode xs := ⟨_, rfl⟩
  obtain ⟨M, hM⟩ : ∃ M, M = meanV xs := ⟨_, rfl⟩
  obtain ⟨D, hD⟩ : ∃ D, D = medV xs := ⟨_, rfl⟩
  obtain ⟨K3, hK3⟩ : ∃ K3, K3 = movC xs y := ⟨_, rfl⟩
  have ME := hide (implMeanOf_calls A2 m c2 xs w1 f2.rd (by omega))
  have MD := hide (fun W (hW : RdI W A2 m xs) => implMedianOf_calls A2 m c2 xs W hW (by omega))
  have MV := hide (fun W (hW : RdI W A2 m xs) => implMovingMeans_calls A2 m c2 xs y W hW hy (by omega) hmc)
  rw [← hK, ← hM] at ME
  rw [← hK, ← hD] at MD
  rw [← hK3] at MV
  have HX1 := hide f2.rd
  have HB1 := hide hb1
  have HKS := hide (And.intro hK (And.intro hM (And.intro hD hK3)))
  clear T0 f2 hb1 hK hM hD hK3
  go_wp2_with fail
  refine ME.out.mono ?_
  rintro e w2 ⟨rfl, hj2⟩
  have hb2 := below_of_draws hj2
  have HX2 := hide (HX1.out.below hb2 (Nat.le_refl _))
  have HB2 := hide (HB1.out.trans (hb2.mono HB1.out.size))
  clear hj2 hb2 ME HX1 HB1
  go_wp2_with fail
  refine (MD.out w2 HX2.out).mono ?_
  rintro e w3 ⟨rfl, hb3⟩
  have HX3 := hide (HX2.out.below hb3 (Nat.le_refl _))
  have HB3 := hide (HB2.out.trans (hb3.mono HB2.out.size))
  clear hb3 MD HX2 HB2
  go_wp2_with fail
  refine (MV.out w3 HX3.out).mono ?_
  rintro e w4 ⟨A4, k4, c4, rfl, f4, N4, hb4⟩
  have HX4 := hide (HX3.out.below hb4 (Nat.le_refl _))
  have HV4 := hide f4.rd
  have HB4 := hide (HB3.out.trans (hb4.mono HB3.out.size))
  clear hb4 MV HX3 HB3 f4
  go_upto_if 59 with fail
  go_cut [] (fun wx => Hid (Below w.heap.size w wx))
  case first => as_aux_lemma =>
    --[
    by_cases hok : okSer xs = true
    case neg =>
      have hk1 : K = 1 := by rw [HKS.out.1]; unfold okCode; rw [if_neg hok]
      have HK1 := hide hk1
      subst hk1
      clear HK1
      go_wp2_with fail
      go_meet
      case rel => exact HB4.out
    have hk0 : K = 0 := by rw [HKS.out.1]; unfold okCode; rw [if_pos hok]
    have hlx : xs.length = m := HX4.out.len
    have hl := ok_len hok
    rw [hlx] at hl
    have hm1 : 0 < m := hl.1
    have hMD : ∀ lo hi : Int, (∀ x ∈ xs, lo ≤ x ∧ x ≤ hi) → lo ≤ M ∧ M ≤ hi ∧ lo ≤ D ∧ D ≤ hi ∧ 2 * xs.countP (fun x => decide (x < D)) ≤ m ∧ 2 * xs.countP (fun x => decide (D < x)) ≤ m := by
      intro lo hi h
      have e1 : M = meanZ xs := by rw [HKS.out.2.1]; unfold meanV; rw [if_pos hok]
      have e2 : D = medZ xs := by rw [HKS.out.2.2.1]; unfold medV; rw [if_pos hok]
      have a1 := mean_between (xs := xs) (by omega) h
      have a2 := med_between (xs := xs) (by omega) h
      rw [← e1] at a1
      rw [← e2, hlx] at a2
      exact ⟨a1.1, a1.2, a2⟩
    have HMD := hide hMD
    have HMV := hide (fun h3 : K3 = 0 => mov_law (xs := xs) (wide := y) (by rw [← HKS.out.2.2.2]; exact h3))
    have HOK := hide hok
    have HLX := hide hlx
    have HSB := hide (ser_back hok)
    have hss := ser_small hok
    have hbd := ok_mem hok
    have HBD := hide hbd
    have hDb := hMD 0 1000000 hbd
    have dD1 : 0 ≤ D := hDb.2.2.1
    have dD2 : D ≤ 1000000 := hDb.2.2.2.1
    have dM1 : 0 ≤ M := hDb.1
    have dM2 : M ≤ 1000000 := hDb.2.1
    subst hk0
    obtain ⟨b, off, x0, hA2, hbl, hx0, hc0, hx1, hx2⟩ := HX4.out.at (k := 0) hm1
    subst hA2
    have HX0 := hide hx0.out
    have ST := hide (fun W (hT : TabP W) (hW : RdI W (some ⟨b, off, none⟩) m xs) => implSeriesText_calls (some ⟨b, off, none⟩) m c2 xs W hT hW (by omega))
    obtain ⟨S, hS⟩ : ∃ S, S = serV xs := ⟨_, rfl⟩
    rw [← hS] at ST HSB hss
    have HRS := hide (fun W (hT : TabPME W) => implReadSeries_calls S W hT (by omega) (by omega))
    rw [HSB.out.1, HSB.out.2] at HRS
    rw [Nat.add_zero] at hc0
    clear hlx hl hMD hbd hDb hok hx0 hS HKS hbl
    go_wp2_with fail
    go_loop [13, 14, 15, 16, 17] (fun lo hi l g i => ∃ (k l' g' : Nat) (lo' hi' : Int), k ≤ m ∧ i = .int .i64 k ∧ lo = .int .i64 lo' ∧ hi = .int .i64 hi' ∧ l = .int .i64 l' ∧ g = .int .i64 g' ∧ l' ≤ k ∧ g' ≤ k ∧ I64 lo' ∧ I64 hi' ∧ Hid (0 < k → ∀ x ∈ xs.take k, lo' ≤ x ∧ x ≤ hi') ∧ (k = 0 → lo' = x0 ∧ hi' = x0) ∧ Hid (l' = (xs.take k).countP (fun x => decide (x < D)) ∧ g' = (xs.take k).countP (fun x => decide (D < x)))) (fun _ _ _ _ i => m - (intOf i).toNat)
    case atStart => exact ⟨0, 0, 0, x0, x0, Nat.zero_le _, rfl, rfl, rfl, rfl, rfl, Nat.le_refl _, Nat.le_refl _, ⟨hx1, hx2⟩, ⟨hx1, hx2⟩, fun h => absurd h (Nat.lt_irrefl _), fun _ => ⟨rfl, rfl⟩, rfl, rfl⟩
    case round =>
      obtain ⟨k, l', g', lo', hi', hk, rfl, rfl, rfl, rfl, rfl, hl', hg', hlo, hhi, HB, hz, HC⟩ := hrel
      unfold I64 at hlo hhi
      by_cases hlt : k < m
      · obtain ⟨b', off', x, hA, _, hx, hcx, hxa, hxb⟩ := HX4.out.at hlt
        obtain ⟨rfl, rfl⟩ : b = b' ∧ off = off' := by simpa using hA
        clear hA
        have hst := stat_step (D := D) hx.out HB.out hz HC.out
        have HST := hide hst
        clear hst HB HC
        rcases Int.lt_trichotomy x D with h | h | h
        · have h2 : ¬ D < x := by omega
          go_wp2_with fail
          go_round
          case rel => exact ⟨k + 1, l' + 1, g', min lo' x, max hi' x, by omega, by go_num, rfl, rfl, by go_num, rfl, by omega, by omega, ⟨by omega, by omega⟩, ⟨by omega, by omega⟩, HST.out.1, fun h => absurd h (by omega), by rw [HST.out.2.1, if_pos h], by rw [HST.out.2.2, if_neg h2]; rfl⟩
          case measure => simp [intOf]; omega
        · have h1 : ¬ x < D := by omega
          have h2 : ¬ D < x := by omega
          clear h
          go_wp2_with fail
          go_round
          case rel => exact ⟨k + 1, l', g', min lo' x, max hi' x, by omega, by go_num, rfl, rfl, rfl, rfl, by omega, by omega, ⟨by omega, by omega⟩, ⟨by omega, by omega⟩, HST.out.1, fun h => absurd h (by omega), by rw [HST.out.2.1, if_neg h1]; rfl, by rw [HST.out.2.2, if_neg h2]; rfl⟩
          case measure => simp [intOf]; omega
        · have h1 : ¬ x < D := by omega
          go_wp2_with fail
          go_round
          case rel => exact ⟨k + 1, l', g' + 1, min lo' x, max hi' x, by omega, by go_num, rfl, rfl, rfl, by go_num, by omega, by omega, ⟨by omega, by omega⟩, ⟨by omega, by omega⟩, HST.out.1, fun h => absurd h (by omega), by rw [HST.out.2.1, if_neg h1]; rfl, by rw [HST.out.2.2, if_pos h]⟩
          case measure => simp [intOf]; omega
      · have hkm : k = m := by omega
        subst hkm
        have hall : ∀ z ∈ xs, lo' ≤ z ∧ z ≤ hi' := by
          have := HB.out hm1
          rwa [List.take_of_length_le (by rw [HLX.out]; exact Nat.le_refl _)] at this
        obtain ⟨q1, q2, q3, q4, q5, q6⟩ := HMD.out lo' hi' hall
        have hc := HC.out
        rw [List.take_of_length_le (by rw [HLX.out]; exact Nat.le_refl _)] at hc
        rw [← hc.1] at q5
        rw [← hc.2] at q6
        have d1 : decide (M < lo') = false := decide_eq_false (by omega)
        have d2 : decide (hi' < M) = false := decide_eq_false (by omega)
        have d3 : decide (D < lo') = false := decide_eq_false (by omega)
        have d4 : decide (hi' < D) = false := decide_eq_false (by omega)
        have d5 : decide ((k : Int) < 2 * (l' : Int)) = false := decide_eq_false (by omega)
        have d6 : decide ((k : Int) < 2 * (g' : Int)) = false := decide_eq_false (by omega)
        unfold SerBPost at HRS
        clear hall HB HC hz hc HMD HBD HSB HX0 hc0 hx1 hx2 hk hss HOK
        go_wp2_with fail
        refine (ST.out w4 (HT.out.1.1.here HB4.out) HX4.out).mono ?_
        rintro e w5 ⟨rfl, hb5⟩
        have HX5 := hide (HX4.out.below hb5 (Nat.le_refl _))
        have HV5 := hide (HV4.out.below hb5 (Nat.le_refl _))
        have HB5 := hide (HB4.out.trans (hb5.mono HB4.out.size))
        clear hb5 ST HX4 HV4 HB4
        go_wp2_with fail
        refine (HRS.out w5 (HT.out.here HB5.out)).mono ?_
        rintro e w6 ⟨A6, n6, c6, rfl, f6, N6, hb6⟩
        have HX6 := hide (HX5.out.below hb6 (Nat.le_refl _))
        have HV6 := hide (HV5.out.below hb6 (Nat.le_refl _))
        have HB6 := hide (HB5.out.trans (hb6.mono HB5.out.size))
        have NU := hide (b10Nums_calls A6 (some ⟨b, off, none⟩) n6 c6 k c2 xs w6 f6.rd HX6.out N6)
        clear hb6 HRS HX5 HV5 HB5 f6
        go_wp2_with fail
        refine NU.out.mono ?_
        rintro e w7 ⟨rfl, hj7⟩
        have hb7 := below_of_draws hj7
        have HX7 := hide (HX6.out.below hb7 (Nat.le_refl _))
        have HV7 := hide (HV6.out.below hb7 (Nat.le_refl _))
        have HB7 := hide (HB6.out.trans (hb7.mono HB6.out.size))
        clear hj7 hb7 NU HX6 HV6 HB6 d1 d2 d3 d4 d5 d6 q1 q2 q3 q4 q5 q6 dD1 dD2 dM1 dM2 hlo hhi hl' hg'
        by_cases h3 : K3 = 0
        case neg =>
          have h3' : (K3 == 0) = false := by simpa using h3
          have HK3 := hide h3
          clear h3
          go_wp2_with fail
          go_meet
          case rel => exact HB7.out
        obtain ⟨W, rfl, hW1, hW2, hW3, hWs⟩ := HMV.out h3
        subst h3
        have hk4 : k4 = (movV xs W).length := HV7.out.len.symm
        rw [← hk4, HLX.out] at hW3
        rw [← hk4] at hWs
        rw [HLX.out] at hW2
        have HWS := hide hWs
        have d7 : ¬ (W : Int) < 1 := by omega
        have d8 : (k4 : Int) = (k : Int) - (W : Int) + 1 := by omega
        clear hWs HMV hk4
        go_wp2_with fail
        clear d8
        go_loop [20, 21, 22] (fun i _ _ => ∃ q : Nat, q ≤ k4 ∧ i = .int .i64 q) (fun i _ _ => k4 - (intOf i).toNat)
        case atStart => exact ⟨0, Nat.zero_le _, rfl⟩
        case round =>
          obtain ⟨q, hq, rfl⟩ := hrel
          by_cases hqk : q < k4
          · obtain ⟨v, hv, e1, e2⟩ := HWS.out q hqk
            have hcut := HX7.out.cut (k := q) (m := W) (by omega)
            have SM := fun c' => specMeanOf_calls (some ⟨b, off + q, none⟩) W c' ((xs.drop q).take W) w7 hcut (by omega)
            simp only [e1, e2] at SM
            have HSM := hide SM
            obtain ⟨bv, ov, v', hA4, _, hv', hcv, _, _⟩ := HV7.out.at hqk
            obtain rfl : v = v' := Option.some.inj (hv.symm.trans hv'.out)
            subst hA4
            have i1 : ¬ c2 = q := by omega
            have i2 : (q : Int) + (W : Int) ≤ (c2 : Int) := by omega
            have i3 : (0 : Int) ≤ (q : Int) := by omega
            have i4 : (q : Int) < (k4 : Int) := by omega
            have i5 : (q : Int) ≤ (q : Int) + (W : Int) := by omega
            clear hv e1 e2 hcut SM hv'
            go_wp2_with fail
            refine (HSM.out _).mono ?_
            rintro e w' ⟨rfl, rfl⟩
            go_wp2_with fail
            go_round
            case rel => exact ⟨q + 1, by omega, by go_num⟩
            case measure => simp [intOf]; omega
          · have hqe : q = k4 := by omega
            subst hqe
            go_wp2_with fail
            go_meet
            case rel => exact HB7.out
    --]
  case rest => as_aux_lemma =>
    have HC1 := hide hcut.out
    have DG := hide (drawFillGaps_calls n1 c1 A1 bs1 wc (H1.out.below HC1.out (Nat.le_refl _)) hn1)
    unfold SerMPost at DG
    clear hcut HB4 HX4 HV4 HKS HT H0 H1
    go_wp2_with fail
    refine DG.out.mono ?_
    rintro e w5 ⟨A5, m5, c5, zs, B5, k5, d5, ms, rfl, r5, hm5, s5, hk5, hb5⟩
    obtain ⟨K5, hK5⟩ : ∃ K5, K5 = fiC zs ms := ⟨_, rfl⟩
    have FG := hide (implFillGaps_calls A5 B5 m5 c5 k5 d5 zs ms w5 r5 s5 (by omega) (by omega))
    rw [← hK5] at FG
    have HK5 := hide hK5
    have HR5 := hide r5
    have HS5 := hide s5
    have HB5 := hide (HC1.out.trans (hb5.mono HC1.out.size))
    clear DG HC1 r5 s5 hb5 hK5
    go_wp2_with fail
    refine FG.out.mono ?_
    rintro e w6 ⟨A6, n6, c6, rfl, f6, N6, hb6⟩
    have HR6 := hide (HR5.out.below hb6 (Nat.le_refl _))
    have HS6 := hide (HS5.out.below hb6 (Nat.le_refl _))
    have HB6 := hide (HB5.out.trans (hb6.mono HB5.out.size))
    have HF6 := hide f6.rd
    clear FG HR5 HS5 HB5 hb6 f6
    by_cases h0 : K5 = 0
    case neg =>
      have hn6 : n6 = 0 := by
        have := HF6.out.len
        rw [fiV_bad (by rw [← HK5.out]; exact h0)] at this
        exact this.symm
      subst hn6
      go_wp2
      go_ret
      exact ⟨rfl, HB6.out⟩
    have hz : fiC zs ms = 0 := by rw [← HK5.out]; exact h0
    have hok := fiC_okser hz
    have hlz : zs.length = m5 := HR6.out.len
    have HFV := HF6.out
    rw [fiV_ok hz] at HFV
    have hk1 : ∀ j, j < m5 → ¬ (j : Int) ∈ ms → (fillP zs ms (fun j => decide ((j : Int) ∈ ms))).getD j 0 = zs.getD j 0 := fun j hj hm => gap_keep (by omega) hm
    have hk2 : ∀ p, p + 2 < m5 → ((p + 1 : Nat) : Int) ∈ ms → _ := fun p hp hm => gap_law (xs := zs) (ms := ms) (p := p) (by omega) hm
    have hk3 := fill_small (ms := ms) hok
    obtain ⟨F, hF⟩ : ∃ F, F = fillP zs ms (fun j => decide ((j : Int) ∈ ms)) := ⟨_, rfl⟩
    rw [← hF] at HFV hk1 hk3
    simp only [← hF] at hk2
    have hn6 : n6 = m5 := by
      have := HFV.len
      rw [hF, fillP_len, hlz] at this
      exact this.symm
    have HK1 := hide hk1
    have HK2 := hide hk2
    have HK3 := hide hk3
    have HFF := hide HFV
    subst h0
    subst hn6
    clear hz hok hlz HFV hk1 hk2 hk3 hF HF6 HK5
    go_wp2_with fail
    go_loopw [27] (fun i wr => ∃ q : Nat, q ≤ n6 ∧ i = .int .i64 q ∧ ∃ d, wr = w6.drewN d) (fun i _ => n6 - (intOf i).toNat)
    case atStart => exact ⟨0, Nat.zero_le _, rfl, 0, rfl⟩
    case round => as_aux_lemma =>
      obtain ⟨q, hq, rfl, hj⟩ := hrel
      obtain ⟨wq, hwq⟩ : ∃ wq, wq = wr := ⟨_, rfl⟩
      rw [← hwq] at hj ⊢
      have HRq := hide (show RdI wq A5 n6 zs by obtain ⟨j, e⟩ := hj; rw [e]; exact HR6.out.drewN j)
      have HSq := hide (show RdI wq B5 k5 ms by obtain ⟨j, e⟩ := hj; rw [e]; exact HS6.out.drewN j)
      have HFq := hide (show RdI wq A6 n6 F by obtain ⟨j, e⟩ := hj; rw [e]; exact HFF.out.drewN j)
      have HNq := hide (show ∀ p, ∃ j, wq.drewN p = w6.drewN j by obtain ⟨j, e⟩ := hj; intro p; exact ⟨_, by rw [e, World.drewN_drewN]⟩)
      have HJq := hide hj
      clear hwq hj
      by_cases hqk : q < n6
      · have HCL := hide fun (W : World) (hW : RdI W B5 k5 ms) (z : Nat) => Calls.quiet_of_same ((b10Has_calls B5 k5 d5 ms q (W.drewN z) (hW.drewN z) (by omega)).mono fun _ _ hh => ⟨hh.1, hh.2.symm⟩)
        have i1 : (0 : Int) ≤ (q : Int) := by omega
        have i2 : (q : Int) < (n6 : Int) := by omega
        by_cases hin : (q : Int) ∈ ms
        · rw [decide_eq_true hin] at HCL
          have HIN := hide hin
          clear hin
          go_wp2
          go_quiet ((go_at_call 18; exact HCL.out wq HSq.out _))
          obtain ⟨nz, hnz⟩ : ∃ q, q = nq := ⟨_, rfl⟩
          rw [← hnz]
          clear hnz
          go_wp2
          obtain ⟨wz, hwz⟩ : ∃ wz, wz = wq.drewN nz := ⟨_, rfl⟩
          rw [← hwz]
          have HSz := hide (show RdI wz B5 k5 ms by rw [hwz]; exact HSq.out.drewN nz)
          have HFz := hide (show RdI wz A6 n6 F by rw [hwz]; exact HFq.out.drewN nz)
          have HNz := hide (show ∀ p, ∃ j, wz.drewN p = w6.drewN j by intro p; rw [hwz, World.drewN_drewN]; exact HNq.out _)
          clear hwz
          rcases Nat.eq_zero_or_pos q with h0 | h0
          · subst h0
            go_quiet ((go_at_call 18; exact HCL.out wz HSz.out _))
            go_wp2
            go_roundw
            case rel => exact ⟨0 + 1, by omega, by go_num, HNz.out _⟩
            case measure => simp [intOf]; omega
          · obtain ⟨p, hp⟩ : ∃ p, p + 1 = q := ⟨q - 1, by omega⟩
            have g0 : decide ((0 : Int) < (q : Int)) = true := decide_eq_true (by omega)
            have g00 : decide (0 < q) = true := decide_eq_true h0
            by_cases hq2 : q + 1 < n6
            · have g1 : decide ((q : Int) + 1 < (n6 : Int)) = true := decide_eq_true (by omega)
              obtain ⟨ba, oa, x, hAa, _, hx, hcx, _, _⟩ := HFz.out.at (show p < n6 by omega)
              obtain ⟨bb, ob, v, hAb, _, hv, hcv, _, _⟩ := HFz.out.at hqk
              obtain ⟨bc, oc, y, hAc, _, hy, hcy, _, _⟩ := HFz.out.at hq2
              obtain ⟨x', v', y', e1, e2, e3, hor⟩ := HK2.out p (by omega) (by rw [hp]; exact HIN.out)
              rw [getD_of hx.out] at e1
              rw [hp, getD_of hv.out] at e2
              rw [show p + 2 = q + 1 by omega, getD_of hy.out] at e3
              subst e1
              subst e2
              subst e3
              have bx := HK3.out x (List.mem_of_getElem? hx.out)
              have bv := HK3.out v (List.mem_of_getElem? hv.out)
              have byy := HK3.out y (List.mem_of_getElem? hy.out)
              subst hAa
              obtain ⟨rfl, rfl⟩ : ba = bb ∧ oa = ob := by simpa using hAb
              obtain ⟨rfl, rfl⟩ : ba = bc ∧ oa = oc := by simpa using hAc
              have ew : IntKind.i64.wrap ((q : Int) - 1) = (p : Int) := by rw [IntKind.wrap_i64]; omega
              have i3 : (0 : Int) ≤ (p : Int) := by omega
              have i4 : (p : Int) < (n6 : Int) := by omega
              have i5 : (0 : Int) ≤ (q : Int) + 1 := by omega
              have i6 : (q : Int) + 1 < (n6 : Int) := by omega
              have m1 : decide (v < min x y - 1) = false := decide_eq_false (by omega)
              have m2 : decide (max x y + 1 < v) = false := decide_eq_false (by omega)
              clear hAb hAc hx hv hy hor hp
              go_quiet ((go_at_call 18; exact HCL.out wz HSz.out _))
              go_wp2
              go_roundw
              case rel => exact ⟨q + 1, by omega, by go_num, HNz.out _⟩
              case measure => simp [intOf]; omega
            · have g1 : decide ((q : Int) + 1 < (n6 : Int)) = false := decide_eq_false (by omega)
              have g2 : ¬ (q : Int) + 1 < (n6 : Int) := by omega
              clear hp
              go_quiet ((go_at_call 18; exact HCL.out wz HSz.out _))
              go_wp2
              go_roundw
              case rel => exact ⟨q + 1, by omega, by go_num, HNz.out _⟩
              case measure => simp [intOf]; omega
        · rw [decide_eq_false hin] at HCL
          obtain ⟨b, off, v, hA6, _, hv, hcv, hv1, hv2⟩ := HFq.out.at hqk
          obtain ⟨b2, off2, v2, hA5, _, hv', hcv', _, _⟩ := HRq.out.at hqk
          have hvv := HK1.out q hqk hin
          rw [getD_of hv.out, getD_of hv'.out] at hvv
          subst hvv
          subst hA6
          subst hA5
          clear hin hv hv' hv1 hv2
          go_wp2
          go_quiet ((go_at_call 18; exact HCL.out wq HSq.out _))
          obtain ⟨nz, hnz⟩ : ∃ q, q = nq := ⟨_, rfl⟩
          rw [← hnz]
          clear hnz
          go_wp2
          obtain ⟨wz, hwz⟩ : ∃ wz, wz = wq.drewN nz := ⟨_, rfl⟩
          rw [← hwz]
          have HSz := hide (show RdI wz B5 k5 ms by rw [hwz]; exact HSq.out.drewN nz)
          have HNz := hide (show ∀ p, ∃ j, wz.drewN p = w6.drewN j by intro p; rw [hwz, World.drewN_drewN]; exact HNq.out _)
          clear hwz
          go_quiet ((go_at_call 18; exact HCL.out wz HSz.out _))
          go_wp2
          go_roundw
          case rel => exact ⟨q + 1, by omega, by go_num, HNz.out _⟩
          case measure => simp [intOf]; omega
      · have hqe : q = n6 := by omega
        subst hqe
        have HBq := hide (HB6.out.trans ((below_of_draws HJq.out).mono HB6.out.size))
        go_wp2
        go_ret
        exact ⟨rfl, HBq.out⟩

end Go.Proofs.YtcclfmapbgdpdaaGreatDoor

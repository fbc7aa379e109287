/- FillGaps of the program and of the reference. -/
import Derived.Test.YtcclfmapbgdpdaaGreatDoorFill
import Derived.Deep.RegionHeld3
namespace Go.Proofs.YtcclfmapbgdpdaaGreatDoor
open Go.RowKit
set_option linter.unusedVariables false

theorem lowZ_bd (ms : List Int) (l : Nat) : -1 ≤ lowZ ms l ∧ lowZ ms l < l := by
  induction l with
  | zero => simp [lowZ]
  | succ l ih => rw [lowZ]; split <;> omega
theorem higZ_bd (ms : List Int) (n d : Nat) (hd : d ≤ n) : (n : Int) - d ≤ higZ ms n d ∧ higZ ms n d ≤ n := by
  induction d with
  | zero => simp [higZ]
  | succ d ih =>
    have := ih (by omega)
    rw [higZ]
    split <;> omega
theorem getD_bd {xs : List Int} (h : ∀ x ∈ xs, 0 ≤ x ∧ x ≤ 1000000) (k : Nat) : 0 ≤ xs.getD k 0 ∧ xs.getD k 0 ≤ 1000000 := by
  rw [List.getD]
  cases hx : xs[k]? with
  | none => simp
  | some y => exact h y (List.mem_of_getElem? hx)
theorem fill_i64 {xs ms : List Int} {i : Nat} (h : okSer xs = true) (hi : i < xs.length) (hm : (i : Int) ∈ ms) : I64 (fillZ xs ms i) := by
  have h60 := (ok_len h).2
  have hall := ok_mem h
  have hl := lowZ_bd ms i
  have hh := higZ_bd ms xs.length (xs.length - (i + 1)) (by omega)
  unfold fillZ
  rw [lowZ_yes hm, higZ_yes hi hm]
  generalize lowZ ms i = l at *
  generalize higZ ms xs.length (xs.length - (i + 1)) = g at *
  have g1 := getD_bd hall g.toNat
  have g2 := getD_bd hall l.toNat
  unfold I64
  split
  · omega
  · split
    · omega
    · obtain ⟨l', rfl⟩ : ∃ l' : Nat, l = l' := ⟨l.toNat, by omega⟩
      obtain ⟨g', rfl⟩ : ∃ g' : Nat, g = g' := ⟨g.toNat, by omega⟩
      have := blend_bd g2 g1 (i := i) (l := l') (h := g') (by omega) (by omega) (by omega)
      omega
theorem fiV_i64 {xs ms : List Int} (h : okSer xs = true) (hx : ∀ x ∈ xs, I64 x) : ∀ x ∈ fillP xs ms (fun j => decide ((j : Int) ∈ ms)), I64 x :=
  fillP_bd (fun i hi hp => fill_i64 h hi (of_decide_eq_true hp)) hx
theorem fiC_bad {xs ms : List Int} (h : okSer xs = false) : fiC xs ms = 1 := by unfold fiC; rw [h]; rfl
theorem fiC_ris {xs ms : List Int} {n m : Nat} (hl : xs.length = n) (hm : ms.length = m) (h : okSer xs = true) (h2 : risB ms 0 ((n : Int) - 1) m = false) : fiC xs ms = 2 := by unfold fiC; rw [h, hl, hm, h2]; rfl
theorem fiC_all {xs ms : List Int} {n m : Nat} (hl : xs.length = n) (hm : ms.length = m) (h : okSer xs = true) (h2 : risB ms 0 ((n : Int) - 1) m = true) (h3 : m = n) : fiC xs ms = 6 := by unfold fiC; rw [h, hl, hm, h2, if_pos rfl, if_pos rfl, if_pos h3]
theorem fiC_ok {xs ms : List Int} {n m : Nat} (hl : xs.length = n) (hm : ms.length = m) (h : okSer xs = true) (h2 : risB ms 0 ((n : Int) - 1) m = true) (h3 : m ≠ n) : fiC xs ms = 0 := by unfold fiC; rw [h, hl, hm, h2, if_pos rfl, if_pos rfl, if_neg h3]
theorem fiV_bad {xs ms : List Int} (h : fiC xs ms ≠ 0) : fiV xs ms = [] := by unfold fiV; rw [if_neg h]
theorem fiV_ok {xs ms : List Int} (h : fiC xs ms = 0) : fiV xs ms = fillP xs ms (fun j => decide ((j : Int) ∈ ms)) := by unfold fiV; rw [if_pos h]
theorem not_all {xs ms : List Int} {n m : Nat} (hm : ms.length = m) (h2 : risB ms 0 ((n : Int) - 1) m = true) (h3 : m ≠ n) : ¬ ∀ i : Nat, i < n → (i : Int) ∈ ms := by
  intro hall
  subst hm
  exact h3 (risB_all h2 hall)
theorem low_all {ms : List Int} {l : Nat} (h : lowZ ms l = -1) : ∀ i : Nat, i < l → (i : Int) ∈ ms := by
  induction l with
  | zero => intro i hi; omega
  | succ l ih =>
    rw [lowZ] at h
    split at h
    · intro i hi
      rcases Nat.lt_or_ge i l with h1 | h1
      · exact ih h i h1
      · have : i = l := by omega
        subst this; assumption
    · omega
theorem hig_all {ms : List Int} {n d : Nat} (hd : d ≤ n) (h : higZ ms n d = n) : ∀ i : Nat, n - d ≤ i → i < n → (i : Int) ∈ ms := by
  induction d with
  | zero => intro i h1 h2; omega
  | succ d ih =>
    rw [higZ] at h
    split at h
    · rename_i hm
      intro i h1 h2
      rcases Nat.lt_or_ge i (n - d) with h3 | h3
      · have : i = n - (d + 1) := by omega
        subst this; exact hm
      · exact ih (by omega) h i h3 h2
    · omega

theorem own_ge {w : World} {base : Nat} {e : TypeId} {size g n c : Nat} {cs : List Value} (h : w.ownsRow base e size (.slice (some ⟨g, 0, none⟩) n c) n cs) : base ≤ g := (h.lt g rfl).1


set_option maxRecDepth 100000 in
set_option maxHeartbeats 8000000 in
theorem implFillGaps_calls (A B : Option Addr) (n c m d : Nat) (xs ms : List Int) (w : World) (h : RdI w A n xs) (h' : RdI w B m ms) (hn : n ≤ 1048576) (hm : m ≤ 1048576) :
    Calls Tryz.prog 17 #[.slice A n c, .slice B m d] w fun e w' => ∃ A' n' c', e = .returned (.tuple #[.slice A' n' c', .int .i64 (fiC xs ms)]) ∧ FrI w' w.heap.size w'.heap.size 2 A' n' (fiV xs ms) ∧ n' ≤ 1048576 ∧ Below w.heap.size w w' := by
  have HL := hide h.len
  have HM := hide h'.len
  have HX := hide h.2
  go_enter Tryz.func17, Tryz.ntmps17
  go_wp2
  go_loopw [6, 17] (fun b i wr => ∃ (k : Nat), k ≤ m ∧ i = .int .i64 k ∧ b = .bool (risB ms 0 ((n : Int) - 1) k) ∧ ∃ j, wr = w.drewN j) (fun _ i _ => m - (intOf i).toNat)
  case atStart => exact ⟨0, by omega, rfl, rfl, 0, rfl⟩
  case round =>
    obtain ⟨k, hk, rfl, rfl, j, rfl⟩ := hrel
    by_cases hlt : k < m
    · obtain ⟨b, off, x, rfl, hbl, hx, hc, hx1, hx2⟩ := h'.at hlt
      rcases b_cases (risB ms 0 ((n : Int) - 1) k) with hri | hri
      · have HF : Hid (risB ms 0 ((n : Int) - 1) (k + 1) = false) := risB_mono (k := k) (by omega) hri
        rw [hri]
        clear hri
        go_wp2
        go_roundw
        case rel => exact ⟨k + 1, by omega, by go_num, by rw [HF.out], _, rfl⟩
        case measure => simp [intOf]; omega
      have HRK := hide hri
      rw [hri]
      clear hri
      rcases b_cases (withinB x 0 ((n : Int) - 1)) with hwi | hwi
      · have HF : Hid (risB ms 0 ((n : Int) - 1) (k + 1) = false) := by unfold Hid; rw [risB, getD_at hx.out, hwi, Bool.and_false, Bool.false_and]
        have HWI := hide hwi
        clear hwi
        go_wp2_with fail
        refine (sizeI_calls _ _ _ _ hn).mono ?_
        rintro e w' ⟨rfl, rfl⟩
        go_wp2_with fail
        refine (within_calls _ _ _ _).mono ?_
        rintro e w' ⟨rfl, rfl⟩
        rw [HWI.out]
        go_wp2
        go_roundw
        case rel => exact ⟨k + 1, by omega, by go_num, by rw [HF.out], _, rfl⟩
        case measure => simp [intOf]; omega
      rcases k with _ | k
      · have hc0 : w.cell? ⟨b, off, none⟩ = some (.int .i64 x) := hc
        clear hc
        have HF : Hid (risB ms 0 ((n : Int) - 1) 1 = true) := by unfold Hid; rw [risB_step0 hx.out]; exact hwi
        have HWI := hide hwi
        clear hwi
        go_wp2_with fail
        refine (sizeI_calls _ _ _ _ hn).mono ?_
        rintro e w' ⟨rfl, rfl⟩
        go_wp2_with fail
        refine (within_calls _ _ _ _).mono ?_
        rintro e w' ⟨rfl, rfl⟩
        rw [HWI.out]
        go_wp2
        go_roundw
        case rel => exact ⟨1, by omega, by go_num, by rw [HF.out], _, rfl⟩
        case measure => simp [intOf]; omega
      obtain ⟨b0, off0, y, hbo, hbl', hy, hc', hy1, hy2⟩ := h'.at (k := k) (by omega)
      obtain ⟨rfl, rfl⟩ : b = b0 ∧ off = off0 := by simpa using hbo
      clear hbo
      have HF : Hid (risB ms 0 ((n : Int) - 1) (k + 2) = decide (y < x)) := by unfold Hid; rw [risB_step hx.out hy.out, HRK.out, hwi]; rfl
      have HWI := hide hwi
      clear hwi
      have hk0 : (((k : Int) + 1) == 0) = false := by simp; omega
      go_wp2_with fail
      refine (sizeI_calls _ _ _ _ hn).mono ?_
      rintro e w' ⟨rfl, rfl⟩
      go_wp2_with fail
      refine (within_calls _ _ _ _).mono ?_
      rintro e w' ⟨rfl, rfl⟩
      rw [HWI.out]
      go_wp2
      go_roundw
      case rel => exact ⟨k + 2, by omega, by go_num, by rw [HF.out], _, rfl⟩
      case measure => simp [intOf]; omega
    have hkm : k = m := by omega
    subst hkm
    go_wp2_with fail
    refine (kept_calls _ _ _ _ _ _ (RdI.drewN h _) hn).mono ?_
    rintro e w' ⟨rfl, rfl⟩
    rcases b_cases (okSer xs) with hok | hok
    · have HC := hide (fiC_bad (ms := ms) hok)
      have e1 : keptC xs (risB ms 0 ((n : Int) - 1) k) = 1 := by unfold keptC; rw [hok]; rfl
      rw [e1]
      go_wp2
      go_ret2
      refine ⟨none, 0, 0, ret_two rfl (congrArg (Value.int .i64) HC.out.symm), ?_, by omega, below_drewN (Below.refl _ _) _⟩
      rw [fiV_bad (by rw [HC.out]; omega)]
      exact FrI.nil
    have h1n : 1 ≤ n := by have := ok_len hok; have := HL.out; omega
    have h60 : n ≤ 60 := by have := ok_len hok; have := HL.out; omega
    have hall := hide (ok_mem hok)
    have HOK := hide hok
    rcases b_cases (risB ms 0 ((n : Int) - 1) k) with hri | hri
    · have HC := hide (fiC_ris HL.out HM.out HOK.out hri)
      have e1 : keptC xs (risB ms 0 ((n : Int) - 1) k) = 2 := by unfold keptC; rw [hok, hri]; rfl
      rw [e1]
      go_wp2
      go_ret2
      refine ⟨none, 0, 0, ret_two rfl (congrArg (Value.int .i64) HC.out.symm), ?_, by omega, below_drewN (Below.refl _ _) _⟩
      rw [fiV_bad (by rw [HC.out]; omega)]
      exact FrI.nil
    have HR := hide hri
    have e1 : keptC xs (risB ms 0 ((n : Int) - 1) k) = 0 := by unfold keptC; rw [hok, hri]; rfl
    rw [e1]
    clear e1 hok hri
    by_cases hmn : k = n
    · have HC := hide (fiC_all HL.out HM.out HOK.out HR.out hmn)
      have e0 : ((k : Int) == n) = true := by simp; omega
      clear hmn
      go_wp2
      go_ret2
      refine ⟨none, 0, 0, ret_two rfl (congrArg (Value.int .i64) HC.out.symm), ?_, by omega, below_drewN (Below.refl _ _) _⟩
      rw [fiV_bad (by rw [HC.out]; omega)]
      exact FrI.nil
    have HC := hide (fiC_ok HL.out HM.out HOK.out HR.out hmn)
    have HNA := hide (not_all (xs := xs) HM.out HR.out hmn)
    have e0 : ((k : Int) == n) = false := by simp; omega
    clear hmn
    go_wp2_with fail
    refine (cloneI_calls _ _ _ _ _ (RdI.drewN h _) hn).mono ?_
    rintro e w2 ⟨Ao, co, rfl, hown2, hb2⟩
    obtain ⟨g, co2, hA⟩ := own_addr hown2 h1n
    obtain ⟨rfl, rfl⟩ : Ao = some ⟨g, 0, none⟩ ∧ co = co2 := by simpa using hA
    clear hA
    have hbw : Below w.heap.size w w2 := (below_drewN (Below.refl _ _) _).trans hb2
    go_wp2_with fail
    go_loopw [59] (fun i wr => ∃ (q : Nat), q ≤ k ∧ i = .int .i64 q ∧ wr.ownsRow w.heap.size 2 1 (.slice (some ⟨g, 0, none⟩) n co) n (cI (fillP xs ms (fun j => decide ((j : Int) ∈ ms.take q)))) ∧ Below w.heap.size w wr) (fun i _ => k - (intOf i).toNat)
    case atStart => exact ⟨0, by omega, rfl, by rw [show fillP xs ms (fun j => decide ((j : Int) ∈ ms.take 0)) = xs by rw [fillP_congr (Q := fun _ => false) (by intro j _; simp), fillP_none]]; exact hown2, hbw⟩
    case round =>
      clear hown2
      obtain ⟨q, hq, rfl, hown, hb⟩ := hrel
      obtain ⟨wo, rfl⟩ : ∃ wo : World, wo = wr := ⟨_, rfl⟩
      have HO := hide hown
      clear hown
      have hxs := h.below hb (Nat.le_refl _)
      have hms := h'.below hb (Nat.le_refl _)
      by_cases hlt : q < k
      · obtain ⟨bm, om, y, rfl, hbm, hy, hcm, hy1, hy2⟩ := hms.at hlt
        obtain ⟨y1, y2, _⟩ := risB_at HR.out hlt
        rw [getD_at hy.out] at y1 y2
        obtain ⟨r, rfl⟩ : ∃ r : Nat, y = r := ⟨y.toNat, by omega⟩
        have HIN : Hid ((r : Int) ∈ ms) := List.mem_of_getElem? hy.out
        have HS : Hid ((fillP xs ms (fun j => decide ((j : Int) ∈ ms.take q))).set r (fillZ xs ms r) = fillP xs ms (fun j => decide ((j : Int) ∈ ms.take (q + 1)))) := fillP_set (by rw [HL.out]; omega) (by rw [take_snoc hy.out]; simp) (fun j _ hj => by
            rw [take_snoc hy.out]
            have : ¬ ((j : Int) = r) := by omega
            simp [this])
        have hrn : r < n := by omega
        obtain ⟨v0, q1, q2, hst⟩ := own_store (k := r) HO.out (by omega)
        have HTN : Hid (xs.length = n) := HL.out
        go_wp2
        go_loop [13] (fun v => ∃ l : Nat, l ≤ r + 1 ∧ v = .int .i64 ((l : Int) - 1) ∧ Hid (lowZ ms l = lowZ ms (r + 1))) (fun v => (intOf v + 1).toNat)
        case atStart => exact ⟨r + 1, by omega, by go_num, rfl⟩
        case round =>
          obtain ⟨l, hl, rfl, HLo⟩ := hrel
          rcases l with _ | l
          · have HLV : Hid (lowZ ms (r + 1) = -1) := HLo.out.symm
            go_wp2
            go_loop [14] (fun v => ∃ p : Nat, r ≤ p ∧ p ≤ n ∧ v = .int .i64 p ∧ Hid (higZ ms n (n - p) = higZ ms n (n - r))) (fun v => n - (intOf v).toNat)
            case atStart => exact ⟨r, by omega, by omega, by go_num, rfl⟩
            case round =>
              obtain ⟨p, hp1, hp2, rfl, HHi⟩ := hrel
              by_cases hpn : p < n
              · by_cases hpm : (p : Int) ∈ ms
                · have HPM := hide hpm
                  have HHN : Hid (higZ ms n (n - (p + 1)) = higZ ms n (n - r)) := (higZ_yes hpn hpm).symm.trans HHi.out
                  clear hpm
                  go_wp2_with fail
                  refine (sizeI_calls _ _ _ _ hn).mono ?_
                  rintro e w' ⟨rfl, rfl⟩
                  go_wp2_with fail
                  refine (containsI_calls _ _ _ _ _ _ hms hm).mono ?_
                  rintro e w' ⟨rfl, rfl⟩
                  rw [decide_eq_true HPM.out]
                  go_wp2
                  go_round
                  case rel => exact ⟨p + 1, by omega, by omega, by go_num, HHN⟩
                  case measure => simp [intOf]; omega
                have HPM := hide hpm
                have HHV : Hid (higZ ms n (n - r) = p) := HHi.out.symm.trans (higZ_no hpn hpm)
                have hpx : r < p := by
                  rcases Nat.eq_or_lt_of_le hp1 with h0 | h0
                  · exact absurd (by rw [← h0]; exact HIN.out) hpm
                  · exact h0
                clear hpm
                obtain ⟨bz, oz, z, hAz, hbz, hz, hcz, hz1, hz2⟩ := hxs.at hpn
                subst hAz
                have HFZ := hide (fillZ_low HTN.out HLV.out HHV.out hz.out)
                go_wp2_with fail
                refine (sizeI_calls _ _ _ _ hn).mono ?_
                rintro e w' ⟨rfl, rfl⟩
                go_wp2_with fail
                refine (containsI_calls _ _ _ _ _ _ hms hm).mono ?_
                rintro e w' ⟨rfl, rfl⟩
                rw [decide_eq_false HPM.out]
                go_wp2
                go_roundw
                case rel =>
                  refine ⟨q + 1, by omega, by go_num, ?_, hb.setCell (by have := own_ge HO.out; omega) _⟩
                  rw [← HS.out, HFZ.out]
                  have := hst.out (.int .i64 z)
                  simpa [cI, List.map_set] using this
                case measure => simp [intOf]; omega
              have hpe : p = n := by omega
              subst hpe
              have HHV : Hid (higZ ms p (p - r) = p) := HHi.out.symm.trans higZ_end
              exact absurd (fun i hi => (Nat.lt_or_ge i (r + 1)).elim (low_all HLV.out i) (fun h2 => hig_all (n := p) (d := p - r) (by omega) HHV.out i (by omega) hi)) HNA.out
          by_cases hlm : (l : Int) ∈ ms
          · have HLM := hide hlm
            have HLN : Hid (lowZ ms l = lowZ ms (r + 1)) := (lowZ_yes hlm).symm.trans HLo.out
            clear hlm
            have e5 : (((l + 1 : Nat) : Int) - 1) = l := by omega
            rw [e5]
            go_wp2_with fail
            refine (containsI_calls _ _ _ _ _ _ hms hm).mono ?_
            rintro e w' ⟨rfl, rfl⟩
            rw [decide_eq_true HLM.out]
            go_wp2
            go_round
            case rel => exact ⟨l, by omega, by go_num, HLN⟩
            case measure => simp [intOf] <;> omega
          have HLM := hide hlm
          have HLV : Hid (lowZ ms (r + 1) = l) := HLo.out.symm.trans (lowZ_no hlm)
          have hlx : l < r := by
            rcases Nat.eq_or_lt_of_le (show l ≤ r by omega) with h0 | h0
            · exact absurd (by rw [h0]; exact HIN.out) hlm
            · exact h0
          clear hlm
          have e5 : (((l + 1 : Nat) : Int) - 1) = l := by omega
          rw [e5]
          go_wp2_with fail
          refine (containsI_calls _ _ _ _ _ _ hms hm).mono ?_
          rintro e w' ⟨rfl, rfl⟩
          rw [decide_eq_false HLM.out]
          go_wp2
          go_loop [14] (fun v => ∃ p : Nat, r ≤ p ∧ p ≤ n ∧ v = .int .i64 p ∧ Hid (higZ ms n (n - p) = higZ ms n (n - r))) (fun v => n - (intOf v).toNat)
          case atStart => exact ⟨r, by omega, by omega, by go_num, rfl⟩
          case round =>
            obtain ⟨p, hp1, hp2, rfl, HHi⟩ := hrel
            by_cases hpn : p < n
            · by_cases hpm : (p : Int) ∈ ms
              · have HPM := hide hpm
                have HHN : Hid (higZ ms n (n - (p + 1)) = higZ ms n (n - r)) := (higZ_yes hpn hpm).symm.trans HHi.out
                clear hpm
                go_wp2_with fail
                refine (sizeI_calls _ _ _ _ hn).mono ?_
                rintro e w' ⟨rfl, rfl⟩
                go_wp2_with fail
                refine (containsI_calls _ _ _ _ _ _ hms hm).mono ?_
                rintro e w' ⟨rfl, rfl⟩
                rw [decide_eq_true HPM.out]
                go_wp2
                go_round
                case rel => exact ⟨p + 1, by omega, by omega, by go_num, HHN⟩
                case measure => simp [intOf]; omega
              have HPM := hide hpm
              have HHV : Hid (higZ ms n (n - r) = p) := HHi.out.symm.trans (higZ_no hpn hpm)
              have hpx : r < p := by
                rcases Nat.eq_or_lt_of_le hp1 with h0 | h0
                · exact absurd (by rw [← h0]; exact HIN.out) hpm
                · exact h0
              clear hpm
              obtain ⟨bz, oz, z, hAz, hbz, hz, hcz, hz1, hz2⟩ := hxs.at hpn
              obtain ⟨by0, oy, yv, hAy, hby, hyv, hcy, hyv1, hyv2⟩ := h.at (k := l) (by omega)
              obtain ⟨bz2, oz2, z2, hAz2, hbz2, hz2, hcz2, _, _⟩ := h.at hpn
              subst hAy
              obtain ⟨rfl, rfl⟩ : bz = by0 ∧ oz = oy := by simpa [eq_comm] using hAz
              obtain ⟨rfl, rfl⟩ : bz = bz2 ∧ oz = oz2 := by simpa [eq_comm] using hAz2
              obtain rfl : z = z2 := by have := hz.out.symm.trans hz2.out; simpa using this
              have HSa : Hid (∀ W, Below w.heap.size wo W → W.cell? ⟨bz, oz + l, none⟩ = some (.int .i64 yv) ∧ W.cell? ⟨bz, oz + p, none⟩ = some (.int .i64 z)) := fun W hW => ⟨((hb.trans hW).cell (p := ⟨bz, oz + l, none⟩) hby).trans hcy, ((hb.trans hW).cell (p := ⟨bz, oz + p, none⟩) hby).trans hcz2⟩
              have HSb : Hid (∀ W u, Below w.heap.size wo W → (W.setCell ⟨g, r, none⟩ u).cell? ⟨bz, oz + l, none⟩ = some (.int .i64 yv) ∧ (W.setCell ⟨g, r, none⟩ u).cell? ⟨bz, oz + p, none⟩ = some (.int .i64 z)) := fun W u hW => HSa.out _ (hW.setCell (own_ge HO.out) _)
              clear hcy hcz hcz2 hAz hAz2
              have HFZ := hide (fillZ_mid HTN.out HLV.out HHV.out hpn hyv.out hz.out)
              have bdy := hide (hall.out _ (List.mem_of_getElem? hyv.out))
              have bdz := hide (hall.out _ (List.mem_of_getElem? hz.out))
              have ep : ((p : Int) == n) = false := by simp; omega
              have hlx2 : l < r := hlx
              have hwg : w.heap.size ≤ g := own_ge HO.out
              have il1 : (0 : Int) ≤ (l : Int) := by omega
              have il2 : (l : Int) < (n : Int) := by omega
              have il3 : (0 : Int) ≤ (p : Int) := by omega
              have il4 : (p : Int) < (n : Int) := by omega
              go_wp2_with fail
              refine (sizeI_calls _ _ _ _ hn).mono ?_
              rintro e w' ⟨rfl, rfl⟩
              go_wp2_with fail
              refine (containsI_calls _ _ _ _ _ _ hms hm).mono ?_
              rintro e w' ⟨rfl, rfl⟩
              rw [decide_eq_false HPM.out]
              go_wp2_with fail
              refine (sizeI_calls _ _ _ _ hn).mono ?_
              rintro e w' ⟨rfl, rfl⟩
              go_wp2
              go_region_held3 (fun W => W.cell? ⟨bz, oz + l, none⟩ = some (.int .i64 yv) ∧ W.cell? ⟨bz, oz + p, none⟩ = some (.int .i64 z)) (first | exact HSa.out _ (by first | exact Below.refl _ _ | exact (Below.refl _ _).drew | exact below_drewN (Below.refl _ _) _) | exact HSb.out _ _ (below_drewN (Below.refl _ _) _)) (first | (go_at_call 87; refine (blend_calls l r p yv z _ bdy.out bdz.out (by omega) (by omega) (by omega)).mono ?_; rintro e w3 ⟨rfl, jj, rfl⟩))
              all_goals go_wp2
              all_goals go_roundw
              case rel =>
                refine ⟨q + 1, by omega, by go_num, ?_, (below_drewN hb _).setCell (by simpa using hwg) _⟩
                rw [← HS.out, HFZ.out]
                have hst2 : ((wo.drewN (1 + jj)).setCell ⟨g, r, none⟩ (.int .i64 (yv + nearZ ((z - yv) * ((r : Int) - l)) ((p : Int) - l)))).ownsRow w.heap.size 2 1 (.slice (some ⟨g, 0, none⟩) n co) n ((cI (fillP xs ms (fun j => decide ((j : Int) ∈ ms.take q)))).set r (.int .i64 (yv + nearZ ((z - yv) * ((r : Int) - l)) ((p : Int) - l)))) := hst.out _
                simpa [cI, List.map_set] using hst2
              case measure => simp [intOf]; omega
            have hpe : p = n := by omega
            subst hpe
            have HHV : Hid (higZ ms p (p - r) = p) := HHi.out.symm.trans higZ_end
            obtain ⟨by0, oy, yv, rfl, hby, hyv, hcy, hyv1, hyv2⟩ := hxs.at (k := l) (by omega)
            have HFZ := hide (fillZ_high HTN.out HLV.out HHV.out hyv.out)
            go_wp2_with fail
            refine (sizeI_calls _ _ _ _ hn).mono ?_
            rintro e w' ⟨rfl, rfl⟩
            go_wp2_with fail
            refine (sizeI_calls _ _ _ _ hn).mono ?_
            rintro e w' ⟨rfl, rfl⟩
            go_wp2
            go_roundw
            case rel =>
              refine ⟨q + 1, by omega, by go_num, ?_, hb.setCell (by have := own_ge HO.out; omega) _⟩
              rw [← HS.out, HFZ.out]
              have := hst.out (.int .i64 yv)
              simpa [cI, List.map_set] using this
            case measure => simp [intOf]; omega
      have hqe : q = k := by omega
      subst hqe
      go_wp2
      go_ret2
      refine ⟨_, _, _, ret_two rfl (congrArg (Value.int .i64) HC.out.symm), ?_, hn, hb⟩
      rw [fiV_ok HC.out]
      have ho := HO.out
      have e9 : fillP xs ms (fun j => decide ((j : Int) ∈ ms.take q)) = fillP xs ms (fun j => decide ((j : Int) ∈ ms)) := fillP_congr (fun j hj => by rw [List.take_of_length_le (by rw [HM.out]; omega)])
      rw [e9] at ho
      exact FrI.of_own ho (fiV_i64 HOK.out HX.out)

end Go.Proofs.YtcclfmapbgdpdaaGreatDoor

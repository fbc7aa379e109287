/- The law FnLoads returns true for all arguments: its walk. -/
import Derived.Test.YtcclfmapbgdpdaaGreatDoorLoaX
import Derived.Test.YtcclfmapbgdpdaaGreatDoorLoaY
import Derived.Test.YtcclfmapbgdpdaaGreatDoorLoaB
import Derived.Test.YtcclfmapbgdpdaaGreatDoorMg
import Derived.Test.YtcclfmapbgdpdaaGreatDoorLoaJ
import Derived.Test.YtcclfmapbgdpdaaGreatDoorLoaI
import Derived.Test.YtcclfmapbgdpdaaGreatDoorLoaG
import Derived.Test.YtcclfmapbgdpdaaGreatDoorLoaR
import Derived.Test.YtcclfmapbgdpdaaGreatDoorLoaF
import Derived.Deep.DeepCutAuto
namespace Go.Proofs.YtcclfmapbgdpdaaGreatDoor
open Go.RowKit
set_option linter.unusedVariables false

theorem room_drawn {p b k : Int} (h1 : 20 ≤ p ∧ p ≤ 49) (h2 : 5 ≤ b ∧ b ≤ 14) (h3 : 2000 ≤ k ∧ k ≤ 5900) : roomB ⟨p, b, k⟩ = true := by
  unfold roomB withinB
  simp only [Bool.and_eq_true, decide_eq_true_eq]
  omega
theorem fit_drawn {xs : List GrpZ} {p b k : Int} (hd : ∀ x ∈ xs, DrG x) (h1 : 20 ≤ p ∧ p ≤ 49) (h2 : 5 ≤ b ∧ b ≤ 14) (h3 : 2000 ≤ k ∧ k ≤ 5900) : AllFit xs ⟨p, b, k⟩ := fun x hx => by
  obtain ⟨_, a1, a2, a3⟩ := hd x hx
  rw [fits_iff]
  simp only [needZ]
  omega
theorem nd_pos {xs : List GrpZ} (hd : ∀ x ∈ xs, DrG x) : ∀ y ∈ xs.map needZ, PosR y := fun y hy => by
  obtain ⟨x, hx, rfl⟩ := List.mem_map.1 hy
  obtain ⟨a0, _, _, _⟩ := hd x hx
  obtain ⟨_, _, _, g1, g2, g3⟩ := grp_ok (s := x.id) (p := x.p) (b := x.b) (k := x.k) a0
  unfold PosR
  simp only [needZ]
  omega

set_option maxHeartbeats 8000000 in
set_option maxRecDepth 1000000 in
theorem law_Loads (A0 : Option Addr) (n0 c0 : Nat) (bs0 : List Int) (A1 : Option Addr) (n1 c1 : Nat) (bs1 : List Int) (w : World) (ht : TabPME w) (h0 : RdY w A0 n0 bs0) (h1 : RdY w A1 n1 bs1) :
    Calls Tryz.prog 6 #[.slice A0 n0 c0, .slice A1 n1 c1] w fun e w' => e = .returned (.bool true) ∧ Below w.heap.size w w' := by
  have L0 := hide (r8Long_calls A0 A1 n0 n1 c0 c1 w)
  have H0 := hide h0
  have H1 := hide h1
  have HT := hide ht
  clear h0 h1 ht
  by_cases hnn : n0 ≤ 1048576 ∧ n1 ≤ 1048576
  case neg =>
    have e : (!decide (n0 ≤ 1048576) || !decide (n1 ≤ 1048576)) = true := by
      by_cases a : n0 ≤ 1048576 <;> by_cases b : n1 ≤ 1048576 <;> simp [a, b]
      exact hnn ⟨a, b⟩
    rw [e] at L0
    clear e
    go_enter Tryz.func6, Tryz.ntmps6
    go_wp2_with fail
    refine L0.out.mono ?_
    rintro e w' ⟨rfl, rfl⟩
    go_wp2
    go_ret
    exact ⟨rfl, Below.refl _ _⟩
  obtain ⟨hn0, hn1⟩ := hnn
  rw [show (!decide (n0 ≤ 1048576) || !decide (n1 ≤ 1048576)) = false by simp [hn0, hn1]] at L0
  have T0 := hide (r8Groups_calls n0 c0 A0 bs0 w H0.out hn0)
  go_enter Tryz.func6, Tryz.ntmps6
  go_wp2_with fail
  refine L0.out.mono ?_
  rintro e w' ⟨rfl, rfl⟩
  clear L0
  go_wp2_with fail
  refine T0.out.mono ?_
  rintro e w1 ⟨A2, m, c2, xs, rfl, g1, hm6, hmc, hgv, hgd, hb1⟩
  have T1 := hide (r8Room_calls n1 c1 A1 bs1 w1 (H1.out.below hb1 (Nat.le_refl _)) hn1)
  have HX1 := hide g1
  have HB1 := hide hb1
  clear T0 g1 hb1
  go_wp2_with fail
  refine T1.out.mono ?_
  rintro e w2 ⟨rp, rb, rk, rfl, hr1, hr2, hr3, hb2⟩
  have hrv := room_drawn hr1 hr2 hr3
  have hrf := fit_drawn hgd hr1 hr2 hr3
  have hrp : PosR ⟨rp, rb, rk⟩ := by unfold PosR; simp only; omega
  obtain ⟨bx, hbx⟩ : ∃ bx, bx = w2.heap.size := ⟨_, rfl⟩
  obtain ⟨w3, hw3⟩ : ∃ w3, w3 = w2.alloc (.cells #[.int .i64 rp, .int .i64 rb, .int .i64 rk] 87) := ⟨_, rfl⟩
  have hb3 : Below w2.heap.size w2 w3 := by rw [hw3]; exact (Below.refl _ _).alloc (Nat.le_refl _) _
  have hbz : bx < w3.heap.size := by rw [hw3, hbx]; simp
  have HA3 : Hid (At3 87 w3 bx (.int .i64 rp) (.int .i64 rb) (.int .i64 rk)) := by rw [hw3, hbx]; exact At3.new _ _ _ _ _
  have HX2 := HX1.out.below hb2 (Nat.le_refl _)
  have HX3 := hide (HX2.below hb3 (Nat.le_refl _))
  have HB2 := HB1.out.trans (hb2.mono HB1.out.size)
  have HB3 := hide (HB2.trans (hb3.mono HB2.size))
  have HBZ := hide hbz
  have HPL := hide (And.intro hgv (And.intro hgd (And.intro hrv (And.intro hrf hrp))))
  clear T1 HX1 HB1 HX2 HB2 hb2 hb3 hgv hgd hrv hrf hrp hbz
  go_upto_region 5 with fail
  rw [← hw3, ← hbx]
  clear hw3 hbx
  have FR := hide (firstRides_calls A2 m c2 xs rp rb rk w3 HX3.out HPL.out.1 HPL.out.2.2.1 HPL.out.2.2.2.1)
  obtain ⟨c0, c1', c2', _⟩ := HA3.out.out
  go_wp2_with fail
  refine FR.out.mono ?_
  rintro e w4 ⟨A3, n3, c3, rfl, f4, hb4⟩
  have HF4 := hide f4
  have HX4 := hide (HX3.out.below hb4 (Nat.le_refl _))
  have HA4 := hide (HA3.out.below hb4 HBZ.out)
  have HB4 := hide (HB3.out.trans (hb4.mono HB3.out.size))
  have HZ4 := hide (Nat.lt_of_lt_of_le HBZ.out hb4.size)
  clear c0 c1' c2' FR f4 hb4 HX3 HA3 HB3 HBZ
  have FW := hide (fewestRides_calls A2 m c2 xs rp rb rk w4 HX4.out hm6 HPL.out.1 HPL.out.2.2.1 HPL.out.2.2.2.1)
  obtain ⟨c0, c1', c2', _⟩ := HA4.out.out
  go_wp2_with fail
  refine FW.out.mono ?_
  rintro e w5 ⟨A5, n5, c5, bs, u, rfl, hall, hgo, f5, hb5⟩
  have HF5 := hide (And.intro (HF4.out.below hb5 (Nat.le_refl _)) f5)
  have HAL := hide (And.intro hall hgo)
  have HX5 := hide (HX4.out.below hb5 (Nat.le_refl _))
  have HA5 := hide (HA4.out.below hb5 HZ4.out)
  have HB5 := hide (HB4.out.trans (hb5.mono HB4.out.size))
  have HZ5 := hide (Nat.lt_of_lt_of_le HZ4.out hb5.size)
  clear c0 c1' c2' FW f5 hb5 HX4 HA4 HB4 HZ4 HF4 hall hgo
  have TL := hide (implTooLarge_calls A2 m c2 xs rp rb rk w5 HX5.out HPL.out.1 HPL.out.2.2.1 HPL.out.2.2.2.1)
  obtain ⟨c0, c1', c2', _⟩ := HA5.out.out
  go_wp2_with fail
  refine TL.out.mono ?_
  rintro e w6 ⟨rfl, hb6⟩
  have HF6 := hide (And.intro (HF5.out.1.below hb6 (Nat.le_refl _)) (HF5.out.2.below hb6 (Nat.le_refl _)))
  have HX6 := hide (HX5.out.below hb6 (Nat.le_refl _))
  have HA6 := hide (HA5.out.below hb6 HZ5.out)
  have HB6 := hide (HB5.out.trans (hb6.mono HB5.out.size))
  have HZ6 := hide (Nat.lt_of_lt_of_le HZ5.out hb6.size)
  clear c0 c1' c2' TL hb6 HX5 HA5 HB5 HZ5 HF5
  have VG := hide (implValidGroups_calls A2 m c2 xs w6 HX6.out HPL.out.1)
  go_wp2_with fail
  refine VG.out.mono ?_
  rintro e w7 ⟨rfl, hb7⟩
  have HF7 := hide (And.intro (HF6.out.1.below hb7 (Nat.le_refl _)) (HF6.out.2.below hb7 (Nat.le_refl _)))
  have HX7 := hide (HX6.out.below hb7 (Nat.le_refl _))
  have HA7 := hide (HA6.out.below hb7 HZ6.out)
  have HB7 := hide (HB6.out.trans (hb7.mono HB6.out.size))
  have HZ7 := hide (Nat.lt_of_lt_of_le HZ6.out hb7.size)
  clear VG hb7 HX6 HA6 HB6 HZ6 HF6
  have VR := hide (implValidRoom_calls ⟨rp, rb, rk⟩ w7 HPL.out.2.2.1)
  obtain ⟨c0, c1', c2', _⟩ := HA7.out.out
  go_wp2_with fail
  refine VR.out.mono ?_
  rintro e w8 ⟨rfl, hb8⟩
  have HF8 := hide (And.intro (HF7.out.1.below hb8 (Nat.le_refl _)) (HF7.out.2.below hb8 (Nat.le_refl _)))
  have HX8 := hide (HX7.out.below hb8 (Nat.le_refl _))
  have HA8 := hide (HA7.out.below hb8 HZ7.out)
  have HB8 := hide (HB7.out.trans (hb8.mono HB7.out.size))
  have HZ8 := hide (Nat.lt_of_lt_of_le HZ7.out hb8.size)
  clear c0 c1' c2' VR hb8 HX7 HA7 HB7 HZ7 HF7 H0 H1 hn0 hn1 hmc hr1 hr2 hr3
  go_upto_if 88 with fail
  go_cut [] (fun wx => Hid (Below w8.heap.size w8 wx))
  case first => as_aux_lemma =>
    have e3 : m = n3 := by rw [← HF8.out.1.len]; exact (frS_len _ _ _).symm
    have hxl : xs.length = m := HX8.out.2.1
    have e5 : m = n5 := by
      have := HAL.out.1.len
      simp only [List.length_map] at this
      rw [← HF8.out.2.len, this, hxl]
    subst e3
    subst e5
    have hu := HAL.out.1.few
    have hu0 := few_zero HAL.out.1
    have hul := few_last (allFit_map HPL.out.2.2.2.1) HAL.out.1 HAL.out.2
    have hlb := lastZ_bd (allFit_map HPL.out.2.2.2.1)
    have hls := fun {i : Nat} hi => lastZ_step (allFit_map HPL.out.2.2.2.1) (i := i) hi
    simp only [List.length_map, hxl] at hu hu0 hul hlb hls
    have HLS := hide (And.intro hul (And.intro hlb (fun i hi => hls (i := i) hi)))
    clear hul hlb hls
    obtain ⟨bb, hbb⟩ : ∃ bb : Bool, bb = decide (m = 0) := ⟨_, rfl⟩
    have q1 : ((u : Int) == 0) = bb := by rw [hbb]; by_cases h : m = 0 <;> simp [h, hu0]
    have q2 : ((m : Int) == 0) = bb := by rw [hbb]; by_cases h : m = 0 <;> simp [h]
    have q3 : decide (u = 0) = bb := by rw [hbb]; exact decide_eq_decide.2 hu0
    have q5 : (m == 0) = bb := by rw [hbb]; by_cases h : m = 0 <;> simp [h]
    have q6 : (u == 0) = bb := by rw [hbb]; by_cases h : m = 0 <;> simp [h, hu0]
    have i1 : ¬ (u : Int) < 0 := by omega
    have i2 : ¬ m < u := by omega
    have i3 : decide (m < u) = false := decide_eq_false i2
    have i4 : ¬ (m : Int) < (u : Int) := by omega
    clear hbb
    go_wp2_with fail
    clear q1 q2 q3 q5 q6 i1 i2 i3 i4
    go_loopw [14, 15] (fun l i wr => ∃ k : Nat, k ≤ m ∧ i = .int .i64 k ∧ l = .int .i64 (lastZ (xs.map needZ) ⟨rp, rb, rk⟩ k) ∧ wr = w8) (fun _ i _ => m - (intOf i).toNat)
    case atStart => exact ⟨0, Nat.zero_le _, rfl, rfl, rfl⟩
    case round => as_aux_lemma =>
      obtain ⟨k, hk, rfl, rfl, hwr⟩ := hrel
      have hwr' := hwr.symm
      subst hwr'
      clear hwr
      by_cases hlt : k < m
      · obtain ⟨b, off, x, hA, hbl, hx, hc, hx1, hx2⟩ := HF8.out.1.at hlt
        obtain ⟨s1, s2, s3⟩ := HLS.out.2.2 k hlt
        have hb0 := HLS.out.2.1 k (by omega)
        have hxe : x = lastZ (xs.map needZ) ⟨rp, rb, rk⟩ (k + 1) := by
          have h := hx.out
          rw [show (frS (xs.map needZ) ⟨rp, rb, rk⟩ m).1[k]? = some (lastZ (xs.map needZ) ⟨rp, rb, rk⟩ (k + 1)) from s1] at h
          simpa using h.symm
        obtain ⟨l0, hl0⟩ : ∃ l0, l0 = lastZ (xs.map needZ) ⟨rp, rb, rk⟩ k := ⟨_, rfl⟩
        rw [← hxe] at s2 s3
        rw [← hl0] at s2 s3 hb0 ⊢
        have j1 : ¬ x < l0 := by omega
        have j2 : ¬ l0 + 1 < x := by omega
        have j3 : decide (l0 + 1 < x) = false := decide_eq_false j2
        have j4 : decide (x < l0) = false := decide_eq_false j1
        have HXE := hide hxe
        subst hA
        clear hx s1 hxe hl0 s2 s3
        go_wp2_with fail
        go_roundw
        case rel => exact ⟨k + 1, by omega, by go_num, by rw [HXE.out], by first | rfl | trivial⟩
        case measure => simp [intOf]; omega
      · have hkm : k = m := by omega
        subst hkm
        obtain ⟨l0, hl0⟩ : ∃ l0, l0 = lastZ (xs.map needZ) ⟨rp, rb, rk⟩ k := ⟨_, rfl⟩
        have hu1 : (u : Int) ≤ l0 + 1 := by rw [hl0]; exact HLS.out.1
        have hb0 : -1 ≤ l0 ∧ l0 < (k : Int) := by rw [hl0]; exact HLS.out.2.1 k (Nat.le_refl _)
        rw [← hl0]
        have j1 : ¬ l0 + 1 < (u : Int) := by omega
        have j2 : decide (l0 + 1 < (u : Int)) = false := decide_eq_false j1
        clear hl0
        have HL0 := hide hb0
        obtain ⟨fr, hfr⟩ : ∃ fr, fr = (frS (xs.map needZ) ⟨rp, rb, rk⟩ k).1 := ⟨_, rfl⟩
        have HF9 : Hid (RdI w8 A3 k fr ∧ RdI w8 A5 k bs) := by rw [hfr]; exact HF8.out
        have HFR := hide hfr
        clear hfr HF8
        go_wp2_with fail
        clear hb0 hu1 j1 j2
        go_loopw [16, 17, 18, 19] (fun t _ _ _ wr => ∃ j : Nat, (j : Int) ≤ l0 + 1 ∧ t = .int .i64 j ∧ Hid (Below w8.heap.size w8 wr)) (fun t _ _ _ _ => (l0 + 1 - intOf t).toNat)
        case atStart => exact ⟨0, by have := HL0.out; omega, rfl, Below.refl _ _⟩
        case round => as_aux_lemma =>
          obtain ⟨j, hj, rfl, HBr⟩ := hrel
          by_cases hjl : (j : Int) ≤ l0
          · have hjd : decide ((j : Int) ≤ l0) = true := decide_eq_true hjl
            obtain ⟨B0, hB0⟩ : ∃ B0, B0 = wr.heap.size := ⟨_, rfl⟩
            obtain ⟨wa, hwa⟩ : ∃ wa, wa = wr.alloc (.cells #[] 2) := ⟨_, rfl⟩
            obtain ⟨B1, hB1⟩ : ∃ B1, B1 = wa.heap.size := ⟨_, rfl⟩
            obtain ⟨wb, hwb⟩ : ∃ wb, wb = wa.alloc (.cells #[] 2) := ⟨_, rfl⟩
            have hz1 : B1 = B0 + 1 := by rw [hB1, hwa, hB0]; simp
            have hba : Below B0 wr wa := by rw [hwa, hB0]; exact (Below.refl _ _).alloc (Nat.le_refl _) _
            have hbb : Below B0 wr wb := by rw [hwb]; exact hba.alloc (by omega) _
            have r1 : wa.ownsRow B0 2 1 (.slice (some ⟨B0, 0, none⟩) 0 0) 0 [] := by
              have := World.ownsRow_lit (base := wr.heap.size) (e := 2) (size := 1) wr #[] 0 (Nat.le_refl _) (by simp) rfl
              rw [hwa, hB0]; simpa using this
            have r2 : wb.ownsRow B0 2 1 (.slice (some ⟨B1, 0, none⟩) 0 0) 0 [] := by
              have := World.ownsRow_lit (base := B0) (e := 2) (size := 1) wa #[] 0 (by omega) (by simp) rfl
              rw [hwb, hB1]; simpa using this
            have HTW : Hid (Two wb B0 (.slice (some ⟨B0, 0, none⟩) 0 0) 0 [] (.slice (some ⟨B1, 0, none⟩) 0 0) 0 []) := ⟨by rw [hwb]; exact r1.alloc _, r2, fun g h1 h2 => by simp [Value.ownBlock] at h1 h2; omega⟩
            have HB9 := hide (And.intro hbb (Nat.le_of_eq hB0))
            have hB8 : w8.heap.size ≤ B0 := by rw [hB0]; exact HBr.out.size
            clear hba hbb r1 r2
            go_upto_region 27 with fail
            rw [← hwa, ← hwb, ← hB0, ← hz1]
            clear hwa hwb hB0 hB1 hz1
            go_wp2_with fail
            go_loopw [17, 18, 19] (fun v1 v2 i wi => ∃ (a p q : Nat), a ≤ k ∧ i = .int .i64 a ∧ p ≤ a ∧ q ≤ a ∧ Hid (Two wi B0 v1 p (idxQ (isAt fr j) a) v2 q (idxQ (isAt bs j) a)) ∧ Hid (Below B0 wr wi)) (fun _ _ i _ => k - (intOf i).toNat)
            case atStart => exact ⟨0, 0, 0, Nat.zero_le _, rfl, Nat.le_refl _, Nat.le_refl _, HTW, HB9.out.1⟩
            case round => as_aux_lemma =>
              obtain ⟨a, p, q, ha, rfl, hpa, hqa, HTr, HBi⟩ := hrel
              by_cases hlt : a < k
              · have hb9 := HBr.out.trans (HBi.out.mono hB8)
                obtain ⟨b1, off1, x1, hA1, hbl1, hx1, hc1, _, _⟩ := (HF9.out.1.below hb9 (Nat.le_refl _)).at hlt
                obtain ⟨b2, off2, x2, hA2, hbl2, hx2, hc2', _, _⟩ := HF9.out.2.at hlt
                have HC2 : Hid (∀ W, Below w8.heap.size w8 W → W.cell? ⟨b2, off2 + a, none⟩ = some (.int .i64 x2)) := fun W hW => (hW.cell (p := ⟨b2, off2 + a, none⟩) hbl2).trans hc2'
                have hc2 := HC2.out _ hb9
                have HB10 := hide hb9
                have hBz : B0 ≤ wr.heap.size := Nat.le_trans HB9.out.2 HBi.out.size
                clear hc2'
                have hbd := HAL.out.1.bd x2 (List.mem_of_getElem? hx2.out)
                simp only at hbd
                have e1 : isAt fr j a = (x1 == (j : Int)) := by unfold isAt; rw [List.getD_eq_getElem?_getD, hx1.out]; rfl
                have e2 : isAt bs j a = (x2 == (j : Int)) := by unfold isAt; rw [List.getD_eq_getElem?_getD, hx2.out]; rfl
                by_cases g1 : x1 = (j : Int)
                · have E1 := hide (idxQ_yes (p := isAt fr j) (n := a) (by rw [e1, g1]; simp))
                  by_cases g2 : x2 = (j : Int)
                  · have E2 := hide (idxQ_yes (p := isAt bs j) (n := a) (by rw [e2, g2]; simp))
                    clear hx1 hx2 e1 e2 hb9
                    subst g1
                    subst g2
                    have i1 : ¬ (j : Int) < 0 := by omega
                    have i2 : ¬ u ≤ j := by omega
                    have i3 : decide (u ≤ j) = false := decide_eq_false i2
                    subst hA1
                    subst hA2
                    clear hbd
                    go_wp2_with (at_builtin; first | (refine appTwo rfl _ _ rfl B0 u17 p _ u18 q _ (a : Int) rfl HTr.out rfl (by omega) (by omega) ?_; intro v3 w3 hown3 hb3 hz3; have hc3 := HC2.out w3 (HB10.out.trans (hb3.mono hB8))) | (refine appTwo rfl _ _ rfl B0 u18 q _ v3 (p + 1) _ (a : Int) rfl hown3.swap rfl (by omega) (by omega) ?_; intro v4 w4 hown4 hb4 hz4; have hc4 := HC2.out w4 (HB10.out.trans ((hb3.trans hb4).mono hB8))))
                    have HT4 := hide hown4
                    have HB4 := hide (HBi.out.trans (hb3.trans hb4))
                    go_roundw
                    case rel => exact ⟨a + 1, p + 1, q + 1, by omega, by go_num, by omega, by omega, by rw [E1.out, E2.out]; exact HT4.out.swap, HB4⟩
                    case measure => simp [intOf]; omega
                  · have E2 := hide (idxQ_no (p := isAt bs j) (n := a) (by rw [e2]; simpa using g2))
                    have i1 : ¬ x2 < 0 := by omega
                    have i2 : ¬ (u : Int) ≤ x2 := by omega
                    have i3 : decide ((u : Int) ≤ x2) = false := decide_eq_false i2
                    have g2' : (x2 == (j : Int)) = false := by simpa using g2
                    clear hx1 hx2 e1 e2 hb9 hbd
                    subst g1
                    subst hA1
                    subst hA2
                    go_wp2_with (at_builtin; refine appTwo rfl _ _ rfl B0 u17 p _ u18 q _ (a : Int) rfl HTr.out rfl (by omega) (by omega) ?_; intro v3 w3 hown3 hb3 hz3; have hc3 := HC2.out w3 (HB10.out.trans (hb3.mono hB8)))
                    have HT3 := hide hown3
                    have HB3 := hide (HBi.out.trans hb3)
                    go_roundw
                    case rel => exact ⟨a + 1, p + 1, q, by omega, by go_num, by omega, by omega, by rw [E1.out, E2.out]; exact HT3.out, HB3⟩
                    case measure => simp [intOf]; omega
                · have E1 := hide (idxQ_no (p := isAt fr j) (n := a) (by rw [e1]; simpa using g1))
                  have g1' : (x1 == (j : Int)) = false := by simpa using g1
                  by_cases g2 : x2 = (j : Int)
                  · have E2 := hide (idxQ_yes (p := isAt bs j) (n := a) (by rw [e2, g2]; simp))
                    clear hx1 hx2 e1 e2 hb9
                    subst g2
                    have i1 : ¬ (j : Int) < 0 := by omega
                    have i2 : ¬ u ≤ j := by omega
                    have i3 : decide (u ≤ j) = false := decide_eq_false i2
                    subst hA1
                    subst hA2
                    clear hbd
                    go_wp2_with (at_builtin; refine appTwo rfl _ _ rfl B0 u18 q _ u17 p _ (a : Int) rfl HTr.out.swap rfl (by omega) (by omega) ?_; intro v4 w4 hown4 hb4 hz4; have hc4 := HC2.out w4 (HB10.out.trans (hb4.mono hB8)))
                    have HT4 := hide hown4
                    have HB4 := hide (HBi.out.trans hb4)
                    go_roundw
                    case rel => exact ⟨a + 1, p, q + 1, by omega, by go_num, by omega, by omega, by rw [E1.out, E2.out]; exact HT4.out.swap, HB4⟩
                    case measure => simp [intOf]; omega
                  · have E2 := hide (idxQ_no (p := isAt bs j) (n := a) (by rw [e2]; simpa using g2))
                    have i1 : ¬ x2 < 0 := by omega
                    have i2 : ¬ (u : Int) ≤ x2 := by omega
                    have i3 : decide ((u : Int) ≤ x2) = false := decide_eq_false i2
                    have g2' : (x2 == (j : Int)) = false := by simpa using g2
                    subst hA1
                    subst hA2
                    clear hx1 hx2 e1 e2 hb9 hbd
                    go_wp2_with fail
                    go_roundw
                    case rel => exact ⟨a + 1, p, q, by omega, by go_num, by omega, by omega, by rw [E1.out, E2.out]; exact HTr, HBi⟩
                    case measure => simp [intOf]; omega
              · have hak : a = k := by omega
                subst hak
                obtain ⟨D1, d1, hv1⟩ := own_slice HTr.out.one
                obtain ⟨D2, d2, hv2⟩ := own_slice HTr.out.two
                subst hv1
                subst hv2
                have hb9 := HBr.out.trans (HBi.out.mono hB8)
                have hxl : xs.length = a := HX8.out.2.1
                have R1 := RdI.of_own HTr.out.one (idxQ_I64 (by omega))
                have R2 := RdI.of_own HTr.out.two (idxQ_I64 (by omega))
                have hf1 := fr_fits (allFit_map HPL.out.2.2.2.1) HPL.out.2.2.2.2 j
                have hf2 := few_fits HAL.out.1 HPL.out.2.2.2.2 j
                have hq0 : j < u → 0 < q := fun h => by
                  have h3 := few_some HAL.out.1 h
                  have h4 := R2.len
                  simp only [List.length_map, hxl] at h3
                  omega
                simp only [List.length_map, hxl] at hf1 hf2
                have HX9 := hide (HX8.out.below hb9 (Nat.le_refl _))
                have HA9 := hide (HA8.out.below hb9 HZ8.out)
                have S1 := hide (specFitsCar_calls A2 D1 a c2 p d1 xs (idxQ (isAt fr j) a) rp rb rk wr HX9.out HPL.out.1 HPL.out.2.2.1 R1 (idxQ_rise _ _) (idxQ_bd _ _) (by omega))
                rw [HFR.out, hf1] at S1
                have S2 := hide (fun W (hW : Below wr.heap.size wr W) => specFitsCar_calls A2 D2 a c2 q d2 xs (idxQ (isAt bs j) a) rp rb rk W (HX9.out.below hW (Nat.le_refl _)) HPL.out.1 HPL.out.2.2.1 (R2.below hW (Nat.le_refl _)) (idxQ_rise _ _) (idxQ_bd _ _) (by omega))
                rw [hf2] at S2
                obtain ⟨bq, hbq⟩ : ∃ bq : Bool, bq = decide (j < u) := ⟨_, rfl⟩
                obtain ⟨l0', l1, l2, _⟩ := HA9.out.out
                have HBK := hide hb9
                have HZ9 := hide (Nat.lt_of_lt_of_le HZ8.out hb9.size)
                have HQ := hide hq0
                clear R1 R2 hf1 hf2 hq0 hb9 hbq
                go_wp2_with fail
                refine S1.out.mono ?_
                rintro e w5 ⟨rfl, hb5⟩
                obtain ⟨m0, m1, m2, _⟩ := (HA9.out.below hb5 HZ9.out).out
                have HB5 := hide (HBK.out.trans (hb5.mono HBK.out.size))
                have S3 := hide (S2.out w5 hb5)
                clear S1 S2 hb5 l0' l1 l2
                go_wp2_with fail
                refine S3.out.mono ?_
                rintro e w6 ⟨rfl, hb6⟩
                have HB6 := hide (HB5.out.trans (hb6.mono HB5.out.size))
                clear S3 hb6 m0 m1 m2
                by_cases hju : j < u
                · have hq1 := HQ.out hju
                  have i1 : decide (j < u) = true := decide_eq_true hju
                  have i2 : (q == 0) = false := by simp; omega
                  have i3 : ¬ q = 0 := by omega
                  have i4 : ((q : Int) == 0) = false := by simp; omega
                  go_wp2_with fail
                  go_roundw
                  case rel => exact ⟨j + 1, by omega, by go_num, HB6⟩
                  case measure => simp [intOf]; omega
                · have i1 : decide (j < u) = false := decide_eq_false hju
                  have hjb : (j : Int) ≤ 7 := by have := HL0.out; omega
                  go_wp2_with fail
                  go_roundw
                  case rel => exact ⟨j + 1, by omega, by go_num, HB6⟩
                  case measure => simp [intOf]; omega
          · have hj1 : l0 < (j : Int) := by omega
            have hjd : decide ((j : Int) ≤ l0) = false := decide_eq_false hjl
            go_wp2_with fail
            go_meet
            case rel => exact HBr
  case rest => as_aux_lemma =>
    obtain ⟨w9, rfl⟩ : ∃ w9 : World, w9 = wc := ⟨_, rfl⟩
    have hbc := hcut.out
    have HX9 := hide (HX8.out.below hbc (Nat.le_refl _))
    have HA9 := hide (HA8.out.below hbc HZ8.out)
    have HB9 := hide (HB8.out.trans (hbc.mono HB8.out.size))
    have HZ9 := hide (Nat.lt_of_lt_of_le HZ8.out hbc.size)
    clear hbc hcut HX8 HA8 HB8 HZ8 HF8 HAL
    have hxl : xs.length = m := HX9.out.2.1
    obtain ⟨bl, hbl⟩ : ∃ bl, bl = (bestP xs ⟨rp, rb, rk⟩).1 := ⟨_, rfl⟩
    obtain ⟨bp, hbp⟩ : ∃ bp, bp = (bestP xs ⟨rp, rb, rk⟩).2 := ⟨_, rfl⟩
    have hbe := best_all hxl HPL.out.2.2.2.2
    have hbm := fun p hf => best_most (r := ⟨rp, rb, rk⟩) hxl (nd_pos HPL.out.2.1) p hf
    have MP := hide (mostPeople_calls A2 m c2 xs rp rb rk w9 HX9.out hm6 HPL.out.1 HPL.out.2.2.1)
    rw [← hbl, ← hbp] at hbe MP
    simp only [← hbp] at hbm
    have HBE := hide hbe
    have HBM := hide hbm
    clear hbe hbm hbl hbp
    obtain ⟨c0, c1', c2', _⟩ := HA9.out.out
    go_wp2_with fail
    refine MP.out.mono ?_
    rintro e w10 ⟨A20, n20, c20, rfl, hS, hb10⟩
    have hn20 : n20 ≤ 12 := by have h1 := HBE.out.2.2.2.2; have h2 := hS.len; omega
    have HS10 := hide hS
    have HX10 := hide (HX9.out.below hb10 (Nat.le_refl _))
    have HA10 := hide (HA9.out.below hb10 HZ9.out)
    have HB10 := hide (HB9.out.trans (hb10.mono HB9.out.size))
    have HZ10 := hide (Nat.lt_of_lt_of_le HZ9.out hb10.size)
    clear c0 c1' c2' MP hS hb10 HX9 HA9 HB9 HZ9
    have SF := hide (specFitsCar_calls A2 A20 m c2 n20 c20 xs bl rp rb rk w10 HX10.out HPL.out.1 HPL.out.2.2.1 HS10.out HBE.out.1 HBE.out.2.1 hn20)
    rw [HBE.out.2.2.1] at SF
    obtain ⟨c0, c1', c2', _⟩ := HA10.out.out
    go_wp2_with fail
    refine SF.out.mono ?_
    rintro e w11 ⟨rfl, hb11⟩
    have HS11 := hide (HS10.out.below hb11 (Nat.le_refl _))
    have HX11 := hide (HX10.out.below hb11 (Nat.le_refl _))
    have HA11 := hide (HA10.out.below hb11 HZ10.out)
    have HB11 := hide (HB10.out.trans (hb11.mono HB10.out.size))
    have HZ11 := hide (Nat.lt_of_lt_of_le HZ10.out hb11.size)
    clear c0 c1' c2' SF hb11 HX10 HA10 HB10 HZ10 HS10
    have IF := hide (implFitsCar_calls A2 A20 m c2 n20 c20 xs bl rp rb rk w11 HX11.out HPL.out.1 HPL.out.2.2.1 HS11.out HBE.out.1 HBE.out.2.1 hn20 HBE.out.2.2.1)
    obtain ⟨c0, c1', c2', _⟩ := HA11.out.out
    go_wp2_with fail
    refine IF.out.mono ?_
    rintro e w12 ⟨rfl, hb12⟩
    have HS12 := hide (HS11.out.below hb12 (Nat.le_refl _))
    have HX12 := hide (HX11.out.below hb12 (Nat.le_refl _))
    have HA12 := hide (HA11.out.below hb12 HZ11.out)
    have HB12 := hide (HB11.out.trans (hb12.mono HB11.out.size))
    have HZ12 := hide (Nat.lt_of_lt_of_le HZ11.out hb12.size)
    clear c0 c1' c2' IF hb12 HX11 HA11 HB11 HZ11 HS11
    go_wp2_with fail
    go_loopw [23, 24] (fun sm i wr => ∃ (k : Nat) (s : Int), k ≤ n20 ∧ i = .int .i64 k ∧ sm = .int .i64 s ∧ (0 ≤ s ∧ s ≤ 200 * k) ∧ Hid (s = (sumL (xs.map needZ) (bl.take k)).p) ∧ wr = w12) (fun _ i _ => n20 - (intOf i).toNat)
    case atStart => exact ⟨0, 0, Nat.zero_le _, rfl, rfl, by omega, rfl, rfl⟩
    case round => as_aux_lemma =>
      obtain ⟨k, s, hk, rfl, rfl, hs, HSS, hwr⟩ := hrel
      have hwr' := hwr.symm
      subst hwr'
      clear hwr
      by_cases hlt : k < n20
      · obtain ⟨bs0, os, y, hD, hbs, hy, hcy, hy1, hy2⟩ := HS12.out.at hlt
        have hyb := HBE.out.2.1 y (List.mem_of_getElem? hy.out)
        obtain ⟨z, rfl⟩ : ∃ z : Nat, y = (z : Int) := ⟨y.toNat, by omega⟩
        have hzn : z < m := by omega
        obtain ⟨b0, off, f0, f1, f2, f3, hA, hbl, hx, c0, c1, c2', c3, hs0, hss⟩ := HX12.out.atGrp hzn
        obtain ⟨_, _, _, hg1, hg2, hg3⟩ := grp_ok (grps_mem HPL.out.1 _ (List.mem_of_getElem? hx.out))
        have HSN : Hid (s + f1 = (sumL (xs.map needZ) (bl.take (k + 1))).p) := by
          unfold Hid
          rw [sumL_p hy.out, Int.toNat_natCast, need_getD hx.out, ← HSS.out]
        have i3 : (0 : Int) ≤ (z : Int) := by omega
        have i4 : (z : Int) < (m : Int) := by omega
        subst hA
        subst hD
        clear hx hy hyb hg2 hg3 hss hs0
        go_wp2_with fail
        go_roundw
        case rel => exact ⟨k + 1, s + f1, by omega, by go_num, rfl, by omega, HSN, by first | rfl | trivial⟩
        case measure => simp [intOf]; omega
      · have hkn : k = n20 := by omega
        have hsp : bp = s := by
          have h := HSS.out
          rw [List.take_of_length_le (by rw [HS12.out.len]; omega), HBE.out.2.2.2.1] at h
          exact h.symm
        subst hsp
        obtain ⟨P, hP⟩ : ∃ P : Nat, P = 2 ^ m := ⟨_, rfl⟩
        have hP1 := shl_one hm6
        rw [← hP] at hP1
        obtain ⟨hP2, hP6⟩ := hP1
        clear hP HSS hkn
        go_wp2_with fail
        go_loopw [25, 26, 27, 28] (fun nu _ _ _ wr => ∃ U : Nat, U ≤ P ∧ nu = .int .i64 U ∧ Hid (Below w12.heap.size w12 wr)) (fun nu _ _ _ _ => P - (intOf nu).toNat)
        case atStart => exact ⟨0, Nat.zero_le _, rfl, Below.refl _ _⟩
        case round => as_aux_lemma =>
          obtain ⟨U, hU, rfl, HBr⟩ := hrel
          by_cases hlt5 : U < P
          · have d5 : decide (U < P) = true := decide_eq_true hlt5
            have hU64 : U < 1048576 := by omega
            obtain ⟨B0, hB0⟩ : ∃ B0, B0 = wr.heap.size := ⟨_, rfl⟩
            obtain ⟨wa, hwa⟩ : ∃ wa, wa = wr.alloc (.cells #[] 2) := ⟨_, rfl⟩
            have hba : Below B0 wr wa := by rw [hwa, hB0]; exact (Below.refl _ _).alloc (Nat.le_refl _) _
            have r1 : wa.ownsRow B0 2 1 (.slice (some ⟨B0, 0, none⟩) 0 0) 0 (cI []) := by
              have := World.ownsRow_lit (base := wr.heap.size) (e := 2) (size := 1) wr #[] 0 (Nat.le_refl _) (by simp) rfl
              rw [hwa, hB0]; simpa [cI] using this
            have HO := hide r1
            have HBa := hide (And.intro hba (Nat.le_of_eq hB0))
            have hB8 : w12.heap.size ≤ B0 := by rw [hB0]; exact HBr.out.size
            clear hba r1
            go_upto_region 54 with fail
            rw [← hwa, ← hB0]
            clear hwa hB0
            go_wp2_with fail
            go_loopw [26, 27, 28] (fun so nn kk wi => ∃ (a p : Nat) (t : Int), a ≤ m ∧ kk = .int .i64 a ∧ nn = .int .i64 t ∧ (0 ≤ t ∧ t ≤ 200 * a) ∧ p ≤ a ∧ Hid (t = (sumQ (xs.map needZ) (bitP U) a).p) ∧ Hid (wi.ownsRow B0 2 1 so p (cI (idxQ (bitP U) a))) ∧ Hid (Below B0 wr wi)) (fun _ _ kk _ => m - (intOf kk).toNat)
            case atStart => exact ⟨0, 0, 0, Nat.zero_le _, rfl, rfl, by omega, Nat.le_refl _, rfl, HO.out, HBa.out.1⟩
            case round => as_aux_lemma =>
              obtain ⟨a, p, t, ha, rfl, rfl, ht, hp, HSQ, HOr, HBi⟩ := hrel
              have hb9 := HBr.out.trans (HBi.out.mono hB8)
              have HB9 := hide hb9
              have hBz : B0 ≤ wr.heap.size := Nat.le_trans HBa.out.2 HBi.out.size
              by_cases hlt6 : a < m
              · obtain ⟨b0, off, f0, f1, f2, f3, hA, hbl, hx, c0, c1, c2', c3, hs0, hss⟩ := HX12.out.atGrp hlt6
                obtain ⟨_, _, _, hg1, hg2, hg3⟩ := grp_ok (grps_mem HPL.out.1 _ (List.mem_of_getElem? hx.out))
                have HC1 : Hid (∀ W, Below w12.heap.size w12 W → W.cell? ⟨b0, off + a * 4 + 1, none⟩ = some (.int .i64 f1)) := fun W hW => (hW.cell (p := ⟨b0, off + a * 4 + 1, none⟩) hbl).trans c1
                have hbit := bitP_and (u := U) (k := a) hU64
                subst hA
                clear c0 c1 c2' c3 hg2 hg3 hs0 hss hbl
                cases hbt : bitP U a with
                | true =>
                  have HSN : Hid (t + f1 = (sumQ (xs.map needZ) (bitP U) (a + 1)).p) := by
                    unfold Hid
                    rw [sumQ_p, if_pos hbt, need_getD hx.out, ← HSQ.out]
                  have E1 := hide (idxQ_yes hbt)
                  rw [hbt, if_pos rfl] at hbit
                  clear hx hb9 hbt
                  go_wp2_with (at_builtin; refine appI rfl _ _ rfl B0 u26 p _ (a : Int) rfl HOr.out rfl (by omega) (by omega) ?_; intro v3 w3 hown3 hb3 hz3; have d3 := HC1.out w3 (HB9.out.trans (hb3.mono hB8)))
                  have HO3 := hide hown3
                  have HB3 := hide (HBi.out.trans hb3)
                  go_roundw
                  case rel => exact ⟨a + 1, p + 1, t + f1, by omega, by go_num, rfl, by omega, by omega, HSN, by rw [E1.out]; exact HO3.out, HB3⟩
                  case measure => simp [intOf]; omega
                | false =>
                  have HSN : Hid (t = (sumQ (xs.map needZ) (bitP U) (a + 1)).p) := by
                    unfold Hid
                    rw [sumQ_p, if_neg (by rw [hbt]; simp), ← HSQ.out]
                  have E1 := hide (idxQ_no hbt)
                  rw [hbt] at hbit
                  simp only [Bool.false_eq_true, if_false] at hbit
                  clear hx hb9 hbt
                  go_wp2_with fail
                  go_roundw
                  case rel => exact ⟨a + 1, p, t, by omega, by go_num, rfl, by omega, by omega, HSN, by rw [E1.out]; exact HOr, HBi⟩
                  case measure => simp [intOf]; omega
              · have ham : m = a := by omega
                subst ham
                obtain ⟨D1, d1, hv1⟩ := own_slice HOr.out
                subst hv1
                by_cases hle : t ≤ bp
                · have i1 : ¬ bp < t := by omega
                  have i2 : decide (bp < t) = false := decide_eq_false i1
                  clear hb9
                  go_wp2_with fail
                  go_roundw
                  case rel => exact ⟨U + 1, by omega, by go_num, HB9⟩
                  case measure => simp [intOf]; omega
                · have i1 : bp < t := by omega
                  have i2 : decide (bp < t) = true := decide_eq_true i1
                  have hf : fitsZ (sumL (xs.map needZ) (idxQ (bitP U) m)) ⟨rp, rb, rk⟩ = false := by
                    cases h : fitsZ (sumL (xs.map needZ) (idxQ (bitP U) m)) ⟨rp, rb, rk⟩ with
                    | false => rfl
                    | true => have h1 := HBM.out _ h; have h2 := HSQ.out; omega
                  have S1 := hide (specFitsCar_calls A2 D1 m c2 p d1 xs (idxQ (bitP U) m) rp rb rk wr (HX12.out.below hb9 (Nat.le_refl _)) HPL.out.1 HPL.out.2.2.1 (RdI.of_own HOr.out (idxQ_I64 (by omega))) (idxQ_rise _ _) (idxQ_bd _ _) (by omega))
                  rw [hf] at S1
                  obtain ⟨l0, l1, l2, _⟩ := (HA12.out.below hb9 HZ12.out).out
                  clear hb9 hf
                  go_wp2_with fail
                  refine S1.out.mono ?_
                  rintro e w15 ⟨rfl, hb15⟩
                  have HB15 := hide (HB9.out.trans (hb15.mono HB9.out.size))
                  clear S1 hb15 l0 l1 l2
                  go_wp2_with fail
                  go_roundw
                  case rel => exact ⟨U + 1, by omega, by go_num, HB15⟩
                  case measure => simp [intOf]; omega
          · have d5 : decide (U < P) = false := decide_eq_false hlt5
            have HX14 := hide (HX12.out.below HBr.out (Nat.le_refl _))
            have HB14 := hide (HB12.out.trans (HBr.out.mono HB12.out.size))
            have LR := hide (leastRoom_calls A2 m c2 xs wr HX14.out hm6 HPL.out.2.1 HPL.out.1)
            clear HX12 HB12 HA12 HZ12 HS12 HBE HBM HBr
            go_wp2_with fail
            refine LR.out.mono ?_
            rintro e w15 ⟨tp, tb, tk, rfl, hsum, htp, htb, htk, hb15⟩
            have hroom : roomB ⟨tp, tb, tk⟩ = true := by
              unfold roomB
              simp only [Bool.and_eq_true]
              exact ⟨withinB_iff.2 (by omega), withinB_iff.2 (by omega), withinB_iff.2 (by omega)⟩
            obtain ⟨g, hg⟩ : ∃ g, g = w15.heap.size := ⟨_, rfl⟩
            obtain ⟨w16, hw16⟩ : ∃ w16, w16 = w15.alloc (.cells #[.int .i64 tp, .int .i64 tb, .int .i64 tk] 87) := ⟨_, rfl⟩
            have hb16 : Below g w15 w16 := by rw [hw16, hg]; exact (Below.refl _ _).alloc (Nat.le_refl _) _
            have HM16 : Hid (At3 87 w16 g (.int .i64 tp) (.int .i64 tb) (.int .i64 tk)) := by rw [hw16, hg]; exact At3.new _ _ _ _ _
            have hg16 : g < w16.heap.size := lt_blk HM16.out
            have HX15 := HX14.out.below hb15 (Nat.le_refl _)
            have HB15 := HB14.out.trans (hb15.mono HB14.out.size)
            have hgw : w.heap.size ≤ g := by rw [hg]; exact HB15.size
            have HX16 : Hid (∀ W, Below g w16 W → RdK kGrp W A2 m xs) := fun W hW => HX15.below (hb16.trans hW) (Nat.le_of_eq hg.symm)
            have HB16 := hide (HB15.trans (hb16.mono hgw))
            have HSUM := hide hsum
            have VR := hide (specValidRoom_calls tp tb tk w16 hroom)
            clear LR HX14 HB14 HX15 HB15 hb15 hb16 hsum hroom
            go_upto_region 64 with fail
            rw [← hw16, ← hg]
            clear hw16 hg
            obtain ⟨l0, l1, l2, _⟩ := HM16.out.out
            go_wp2_with fail
            refine VR.out.mono ?_
            rintro e w17 ⟨rfl, hb17⟩
            have HM17 := hide (HM16.out.below hb17 hg16)
            have HB17 := hide (hb17.mono (Nat.le_of_lt hg16))
            clear l0 l1 l2 VR hb17 hg16 HM16
            go_wp2_with fail
            go_loopw [31, 32, 33, 34, 35] (fun i _ _ _ _ wr => ∃ (j : Nat) (r0 r1 r2 : Int), j ≤ m ∧ i = .int .i64 j ∧ (tp - 20 * j ≤ r0 ∧ r0 ≤ tp) ∧ (tb - 5 * j ≤ r1 ∧ r1 ≤ tb) ∧ (tk - 2000 * j ≤ r2 ∧ r2 ≤ tk) ∧ Hid (sumQ (xs.map needZ) (fun _ => true) j = ⟨tp - r0, tb - r1, tk - r2⟩) ∧ Hid (At3 87 wr g (.int .i64 r0) (.int .i64 r1) (.int .i64 r2)) ∧ Hid (Below g w16 wr)) (fun i _ _ _ _ _ => m - (intOf i).toNat)
            case atStart => exact ⟨0, tp, tb, tk, Nat.zero_le _, rfl, by omega, by omega, by omega, by unfold Hid sumQ zeroR; simp, HM17, HB17⟩
            case round => as_aux_lemma =>
              obtain ⟨j, r0, r1, r2, hj, rfl, hr0, hr1, hr2, HSU, HMr, HBr⟩ := hrel
              have hgr := lt_blk HMr.out
              by_cases hlt7 : j < m
              · obtain ⟨b0, off, f0, f1, f2, f3, hA, hbl, hx, c0, c1, c2', c3, hs0, hss⟩ := (HX16.out wr HBr.out).atGrp hlt7
                have hgb := grps_mem HPL.out.1 _ (List.mem_of_getElem? hx.out)
                obtain ⟨_, _, _, hg1, hg2, hg3⟩ := grp_ok hgb
                obtain ⟨_, hd1, hd2, hd3⟩ := HPL.out.2.1 _ (List.mem_of_getElem? hx.out)
                simp only at hd1 hd2 hd3
                have HSN : Hid (sumQ (xs.map needZ) (fun _ => true) (j + 1) = ⟨tp - (r0 - f1), tb - (r1 - f2), tk - (r2 - (75 * f1 + 15 * f2 + f3))⟩) := by
                  unfold Hid
                  rw [sumQ_true, HSU.out, need_getD hx.out]
                  unfold plusZ
                  simp only [RmZ.mk.injEq]
                  omega
                have HC0 : Hid (∀ W, Below g wr W → W.cell? ⟨b0, off + j * 4, none⟩ = some (.string f0) ∧ W.cell? ⟨b0, off + j * 4 + 1, none⟩ = some (.int .i64 f1) ∧ W.cell? ⟨b0, off + j * 4 + 2, none⟩ = some (.int .i64 f2) ∧ W.cell? ⟨b0, off + j * 4 + 3, none⟩ = some (.int .i64 f3)) := fun W hW => by
                  have h9 := HX16.out W (HBr.out.trans hW)
                  rw [hA] at h9
                  exact grp_cellsF h9 hlt7 hx.out
                have GK := hide (groupKilos_calls f0 f1 f2 f3 wr hgb)
                have GT := hide (fun W (hW : TabP W) => groupText_calls f0 f1 f2 f3 W hW hgb)
                have RG := hide (fun W (hW : TabPME W) => readGroup_calls f0 f1 f2 f3 W hW hgb)
                obtain ⟨tt, htt⟩ : ∃ t, t = grpT f0 f1 f2 f3 := ⟨_, rfl⟩
                simp only [← htt] at GT RG
                have HTr := hide (HT.out.here (HB16.out.trans (HBr.out.mono hgw)))
                have i3 : (0 : Int) ≤ (j : Int) := by omega
                have i4 : (j : Int) < (m : Int) := by omega
                subst hA
                clear hx htt hbl hgb hs0 hss
                go_wp2_with fail
                refine GK.out.mono ?_
                rintro e w20 ⟨rfl, hb20⟩
                clear c0 c1 c2' c3
                obtain ⟨c0, c1, c2', c3⟩ := HC0.out w20 (hb20.mono (Nat.le_of_lt hgr))
                have HB20 := hide hb20
                clear GK hb20
                go_wp2_with fail
                refine (GT.out w20 (HTr.out.here HB20.out).1.1).mono ?_
                rintro e w21 ⟨rfl, hb21⟩
                have HB21 := hide (HB20.out.trans (hb21.mono HB20.out.size))
                clear GT hb21 c0 c1 c2' c3 HB20
                go_wp2_with fail
                refine (RG.out w21 (HTr.out.here HB21.out)).mono ?_
                rintro e w22 ⟨rfl, hb22⟩
                have HB22 := hide (HB21.out.trans (hb22.mono HB21.out.size))
                clear RG hb22 HB21
                obtain ⟨bx2, hbx2⟩ : ∃ b, b = w22.heap.size := ⟨_, rfl⟩
                obtain ⟨V1, hV1⟩ : ∃ V1, V1 = w22.alloc (.cells #[.string f0, .int .i64 f1, .int .i64 f2, .int .i64 f3] 98) := ⟨_, rfl⟩
                have hbW : Below wr.heap.size wr V1 := by rw [hV1]; exact HB22.out.alloc HB22.out.size _
                have HG1 : Hid (Ag4 98 V1 bx2 (.string f0) (.int .i64 f1) (.int .i64 f2) (.int .i64 f3)) := by rw [hV1, hbx2]; exact Ag4.new _ _ _ _ _ _
                have HBV := hide hbW
                clear hbW HB22
                go_upto_region 71 with fail
                rw [← hV1, ← hbx2]
                clear hV1 hbx2
                obtain ⟨a0, a1, a2, a3, _⟩ := HG1.out.out
                obtain ⟨c0, c1, c2', c3⟩ := HC0.out V1 (HBV.out.mono (Nat.le_of_lt hgr))
                go_quiet (fail)
                generalize hW1 : V1.drewN nq = W1
                have hbW1 : Below wr.heap.size wr W1 := by rw [← hW1]; exact below_drewN HBV.out nq
                have HM1 := hide (HMr.out.below hbW1 hgr)
                have HBW := hide (hbW1.mono (Nat.le_of_lt hgr))
                have HC1 : Hid (∀ W, Below g W1 W → W.cell? ⟨b0, off + j * 4, none⟩ = some (.string f0) ∧ W.cell? ⟨b0, off + j * 4 + 1, none⟩ = some (.int .i64 f1) ∧ W.cell? ⟨b0, off + j * 4 + 2, none⟩ = some (.int .i64 f2) ∧ W.cell? ⟨b0, off + j * 4 + 3, none⟩ = some (.int .i64 f3)) := fun W hW => HC0.out W (HBW.out.trans hW)
                clear hbW1 hW1
                clear a0 a1 a2 a3 c0 c1 c2' c3
                go_upto_region 73 with fail
                go_cut [] (fun wx => Hid (At3 87 wx g (.int .i64 (r0 - f1)) (.int .i64 r1) (.int .i64 r2)) ∧ Hid (Wr g (g + 1) W1 wx))
                case first => as_aux_lemma =>
                  obtain ⟨wd, hwd⟩ : ∃ wd : World, wd = W1.drew := ⟨_, rfl⟩
                  have HS0 : Hid ((fun W => Below g W1 W) wd) := by rw [hwd]; exact (Below.refl g W1).drew
                  have HWD := hide hwd
                  have HBd : Hid (Below W1.heap.size W1 wd) := by rw [HWD.out]; exact (Below.refl _ _).drew
                  have HMd : Hid (At3 87 wd g (.int .i64 r0) (.int .i64 r1) (.int .i64 r2)) := by rw [HWD.out]; exact HM1.out
                  refine wp_region_held_drew (S := fun W => Below g W1 W) (by kernel_rfl) (by rw [← hwd]; exact HS0.out) (fun _ => ?_)
                  rw [← hwd]
                  clear hwd
                  refine takeH 0 373 (.pointer (some ⟨g, 0, none⟩)) ⟨_, rfl, rfl, rfl, ?_⟩ (by kernel_rfl) (by kernel_rfl) (by kernel_rfl) (fun _ _ _ h => h) HS0.out ?_
                  · intro wz hSw; go_simp
                  try simp only [Act.put, List.setIfInBounds_toArray, List.set_cons_zero, List.set_cons_succ]
                  refine takeH 2 375 (.slice (some ⟨b0, off, none⟩) m c2) ⟨_, rfl, rfl, rfl, ?_⟩ (by kernel_rfl) (by kernel_rfl) (by kernel_rfl) (fun _ _ _ h => h) HS0.out ?_
                  · intro wz hSw; go_simp
                  try simp only [Act.put, List.setIfInBounds_toArray, List.set_cons_zero, List.set_cons_succ]
                  refine takeH 3 376 (.int .i64 (j : Int)) ⟨_, rfl, rfl, rfl, ?_⟩ (by kernel_rfl) (by kernel_rfl) (by kernel_rfl) (fun _ _ _ h => h) HS0.out ?_
                  · intro wz hSw; go_simp
                  try simp only [Act.put, List.setIfInBounds_toArray, List.set_cons_zero, List.set_cons_succ]
                  refine takeH 4 377 (.pointer (some ⟨b0, off + j * 4, none⟩)) ⟨_, rfl, rfl, rfl, ?_⟩ (by kernel_rfl) (by kernel_rfl) (by kernel_rfl) (fun _ _ _ h => h) HS0.out ?_
                  · intro wz hSw; go_simp
                  try simp only [Act.put, List.setIfInBounds_toArray, List.set_cons_zero, List.set_cons_succ]
                  refine takeH 5 378 (.pointer (some ⟨b0, off + j * 4 + 1, none⟩)) ⟨_, rfl, rfl, rfl, ?_⟩ (by kernel_rfl) (by kernel_rfl) (by kernel_rfl) (fun _ _ _ h => h) HS0.out ?_
                  · intro wz hSw; go_simp
                  try simp only [Act.put, List.setIfInBounds_toArray, List.set_cons_zero, List.set_cons_succ]
                  refine takeH 6 379 (.int .i64 f1) ⟨_, rfl, rfl, rfl, ?_⟩ (by kernel_rfl) (by kernel_rfl) (by kernel_rfl) (fun _ _ _ h => h) HS0.out ?_
                  · intro wz hSw; obtain ⟨x0, x1, x2, x3⟩ := HC1.out wz hSw; go_simp
                  try simp only [Act.put, List.setIfInBounds_toArray, List.set_cons_zero, List.set_cons_succ]
                  refine wpAnyH_ready (rs := [1]) (by kernel_rfl) (by simp) ?_
                  refine AllReadyH.cons rfl (fun K hK => ?_) AllReadyH.nil
                  obtain ⟨l0, l1, l2, _⟩ := HMd.out.out
                  go_simp
                  try go_wp2_with fail
                  refine hK.out _ _ HS0.out (fun _ => ?_)
                  clear l0 l1 l2
                  clear hK K
                  try simp only [Act.put, List.setIfInBounds_toArray, List.set_cons_zero, List.set_cons_succ]
                  refine takeH 7 380 (.int .i64 (r0 - f1)) ⟨_, rfl, rfl, rfl, ?_⟩ (by kernel_rfl) (by kernel_rfl) (by kernel_rfl) (fun _ _ _ h => h) HS0.out ?_
                  · intro wz hSw; go_simp <;> (rw [IntKind.wrap_i64]; omega)
                  try simp only [Act.put, List.setIfInBounds_toArray, List.set_cons_zero, List.set_cons_succ]
                  refine takeH 8 381 (.pointer (some ⟨g, 0, none⟩)) ⟨_, rfl, rfl, rfl, ?_⟩ (by kernel_rfl) (by kernel_rfl) (by kernel_rfl) (fun _ _ _ h => h) HS0.out ?_
                  · intro wz hSw; go_simp
                  try simp only [Act.put, List.setIfInBounds_toArray, List.set_cons_zero, List.set_cons_succ]
                  refine wpAnyH_ready (rs := [9]) (by kernel_rfl) (by simp) ?_
                  refine AllReadyH.cons rfl (fun K hK => ?_) AllReadyH.nil
                  obtain ⟨l0, l1, l2, m0, m1, m2⟩ := HMd.out.out
                  have HMq2 : Hid (At3 87 (World.setCell wd ⟨g, 0, none⟩ (.int .i64 (r0 - f1))) g (.int .i64 (r0 - f1)) (.int .i64 r1) (.int .i64 r2)) := HMd.out.set0
                  have HWq2 : Hid (Wr g (g + 1) wd (World.setCell wd ⟨g, 0, none⟩ (.int .i64 (r0 - f1)))) := Wr.setCell _ _ (Nat.le_refl _) (Nat.lt_succ_self _)
                  have HSq2 := hide (Wr.below HS0.out HWq2.out (Nat.le_refl _) (Nat.le_of_lt (lt_blk HMd.out)))
                  go_simp
                  try go_wp2_with fail
                  refine hK.out _ _ HSq2.out (fun _ => ?_)
                  clear l0 l1 l2 m0 m1 m2
                  clear hK K
                  try simp only [Act.put, List.setIfInBounds_toArray, List.set_cons_zero, List.set_cons_succ]
                  refine wpAnyH_done (by kernel_rfl) ?_ _
                  go_wp2_with fail
                  go_meet
                  case rel => exact ⟨HMq2, (Wr.of_below HBd.out).trans HWq2.out⟩
                case rest => as_aux_lemma =>
                  obtain ⟨W2, rfl⟩ : ∃ W2 : World, W2 = wc := ⟨_, rfl⟩
                  obtain ⟨HM2, HW2⟩ := hcut
                  have hbw2 : Below g W1 W2 := Wr.below (Below.refl _ _) HW2.out (Nat.le_refl _) (Nat.le_of_lt (lt_blk HM1.out))
                  have HC2 : Hid (∀ W, Below g W2 W → W.cell? ⟨b0, off + j * 4, none⟩ = some (.string f0) ∧ W.cell? ⟨b0, off + j * 4 + 1, none⟩ = some (.int .i64 f1) ∧ W.cell? ⟨b0, off + j * 4 + 2, none⟩ = some (.int .i64 f2) ∧ W.cell? ⟨b0, off + j * 4 + 3, none⟩ = some (.int .i64 f3)) := fun W hW => HC1.out W (hbw2.trans hW)
                  have HB2 := hide (HBW.out.trans hbw2)
                  clear hbw2
                  go_upto_region 74 with fail
                  go_cut [] (fun wx => Hid (At3 87 wx g (.int .i64 (r0 - f1)) (.int .i64 (r1 - f2)) (.int .i64 r2)) ∧ Hid (Wr g (g + 1) W2 wx))
                  case first => as_aux_lemma =>
                    obtain ⟨wd, hwd⟩ : ∃ wd : World, wd = W2.drew := ⟨_, rfl⟩
                    have HS0 : Hid ((fun W => Below g W2 W) wd) := by rw [hwd]; exact (Below.refl g W2).drew
                    have HWD := hide hwd
                    have HBd : Hid (Below W2.heap.size W2 wd) := by rw [HWD.out]; exact (Below.refl _ _).drew
                    have HMd : Hid (At3 87 wd g (.int .i64 (r0 - f1)) (.int .i64 r1) (.int .i64 r2)) := by rw [HWD.out]; exact HM2.out
                    refine wp_region_held_drew (S := fun W => Below g W2 W) (by kernel_rfl) (by rw [← hwd]; exact HS0.out) (fun _ => ?_)
                    rw [← hwd]
                    clear hwd
                    refine takeH 0 382 (.pointer (some ⟨g, 1, none⟩)) ⟨_, rfl, rfl, rfl, ?_⟩ (by kernel_rfl) (by kernel_rfl) (by kernel_rfl) (fun _ _ _ h => h) HS0.out ?_
                    · intro wz hSw; go_simp
                    try simp only [Act.put, List.setIfInBounds_toArray, List.set_cons_zero, List.set_cons_succ]
                    refine takeH 2 384 (.slice (some ⟨b0, off, none⟩) m c2) ⟨_, rfl, rfl, rfl, ?_⟩ (by kernel_rfl) (by kernel_rfl) (by kernel_rfl) (fun _ _ _ h => h) HS0.out ?_
                    · intro wz hSw; go_simp
                    try simp only [Act.put, List.setIfInBounds_toArray, List.set_cons_zero, List.set_cons_succ]
                    refine takeH 3 385 (.int .i64 (j : Int)) ⟨_, rfl, rfl, rfl, ?_⟩ (by kernel_rfl) (by kernel_rfl) (by kernel_rfl) (fun _ _ _ h => h) HS0.out ?_
                    · intro wz hSw; go_simp
                    try simp only [Act.put, List.setIfInBounds_toArray, List.set_cons_zero, List.set_cons_succ]
                    refine takeH 4 386 (.pointer (some ⟨b0, off + j * 4, none⟩)) ⟨_, rfl, rfl, rfl, ?_⟩ (by kernel_rfl) (by kernel_rfl) (by kernel_rfl) (fun _ _ _ h => h) HS0.out ?_
                    · intro wz hSw; go_simp
                    try simp only [Act.put, List.setIfInBounds_toArray, List.set_cons_zero, List.set_cons_succ]
                    refine takeH 5 387 (.pointer (some ⟨b0, off + j * 4 + 2, none⟩)) ⟨_, rfl, rfl, rfl, ?_⟩ (by kernel_rfl) (by kernel_rfl) (by kernel_rfl) (fun _ _ _ h => h) HS0.out ?_
                    · intro wz hSw; go_simp
                    try simp only [Act.put, List.setIfInBounds_toArray, List.set_cons_zero, List.set_cons_succ]
                    refine takeH 6 388 (.int .i64 f2) ⟨_, rfl, rfl, rfl, ?_⟩ (by kernel_rfl) (by kernel_rfl) (by kernel_rfl) (fun _ _ _ h => h) HS0.out ?_
                    · intro wz hSw; obtain ⟨x0, x1, x2, x3⟩ := HC2.out wz hSw; go_simp
                    try simp only [Act.put, List.setIfInBounds_toArray, List.set_cons_zero, List.set_cons_succ]
                    refine wpAnyH_ready (rs := [1]) (by kernel_rfl) (by simp) ?_
                    refine AllReadyH.cons rfl (fun K hK => ?_) AllReadyH.nil
                    obtain ⟨l0, l1, l2, _⟩ := HMd.out.out
                    go_simp
                    try go_wp2_with fail
                    refine hK.out _ _ HS0.out (fun _ => ?_)
                    clear l0 l1 l2
                    clear hK K
                    try simp only [Act.put, List.setIfInBounds_toArray, List.set_cons_zero, List.set_cons_succ]
                    refine takeH 7 389 (.int .i64 (r1 - f2)) ⟨_, rfl, rfl, rfl, ?_⟩ (by kernel_rfl) (by kernel_rfl) (by kernel_rfl) (fun _ _ _ h => h) HS0.out ?_
                    · intro wz hSw; go_simp <;> (rw [IntKind.wrap_i64]; omega)
                    try simp only [Act.put, List.setIfInBounds_toArray, List.set_cons_zero, List.set_cons_succ]
                    refine takeH 8 390 (.pointer (some ⟨g, 1, none⟩)) ⟨_, rfl, rfl, rfl, ?_⟩ (by kernel_rfl) (by kernel_rfl) (by kernel_rfl) (fun _ _ _ h => h) HS0.out ?_
                    · intro wz hSw; go_simp
                    try simp only [Act.put, List.setIfInBounds_toArray, List.set_cons_zero, List.set_cons_succ]
                    refine wpAnyH_ready (rs := [9]) (by kernel_rfl) (by simp) ?_
                    refine AllReadyH.cons rfl (fun K hK => ?_) AllReadyH.nil
                    obtain ⟨l0, l1, l2, m0, m1, m2⟩ := HMd.out.out
                    have HMq2 : Hid (At3 87 (World.setCell wd ⟨g, 1, none⟩ (.int .i64 (r1 - f2))) g (.int .i64 (r0 - f1)) (.int .i64 (r1 - f2)) (.int .i64 r2)) := HMd.out.set1
                    have HWq2 : Hid (Wr g (g + 1) wd (World.setCell wd ⟨g, 1, none⟩ (.int .i64 (r1 - f2)))) := Wr.setCell _ _ (Nat.le_refl _) (Nat.lt_succ_self _)
                    have HSq2 := hide (Wr.below HS0.out HWq2.out (Nat.le_refl _) (Nat.le_of_lt (lt_blk HMd.out)))
                    go_simp
                    try go_wp2_with fail
                    refine hK.out _ _ HSq2.out (fun _ => ?_)
                    clear l0 l1 l2 m0 m1 m2
                    clear hK K
                    try simp only [Act.put, List.setIfInBounds_toArray, List.set_cons_zero, List.set_cons_succ]
                    refine wpAnyH_done (by kernel_rfl) ?_ _
                    go_wp2_with fail
                    go_meet
                    case rel => exact ⟨HMq2, (Wr.of_below HBd.out).trans HWq2.out⟩
                  case rest => as_aux_lemma =>
                    obtain ⟨W3, rfl⟩ : ∃ W3 : World, W3 = wc := ⟨_, rfl⟩
                    obtain ⟨HM3, HW3⟩ := hcut
                    have HB3 := hide (HBr.out.trans (HB2.out.trans (Wr.below (Below.refl _ _) HW3.out (Nat.le_refl _) (Nat.le_of_lt (lt_blk HM2.out)))))
                    obtain ⟨l0, l1, l2, m0, m1, m2⟩ := HM3.out.out
                    have HM4 := hide (HM3.out.set2 (u := .int .i64 (r2 - (75 * f1 + 15 * f2 + f3))))
                    have HB4 := hide (Wr.below HB3.out (Wr.setCell (off := 2) W3 (.int .i64 (r2 - (75 * f1 + 15 * f2 + f3))) (Nat.le_refl g) (Nat.lt_succ_self g)) (Nat.le_refl _) (Nat.le_of_lt (lt_blk HM3.out)))
                    go_wp2_with fail
                    go_roundw
                    case rel => exact ⟨j + 1, r0 - f1, r1 - f2, r2 - (75 * f1 + 15 * f2 + f3), by omega, by go_num, by omega, by omega, by omega, HSN, HM4, HB4⟩
                    case measure => simp [intOf]; omega
              · have hjm : m = j := by omega
                subst hjm
                have h0 := HSU.out
                rw [HSUM.out, RmZ.mk.injEq] at h0
                obtain ⟨h01, h02, h03⟩ := h0
                have z0 : r0 = 0 := by omega
                have z1 : r1 = 0 := by omega
                have z2 : r2 = 0 := by omega
                subst z0
                subst z1
                subst z2
                obtain ⟨l0, l1, l2, _⟩ := HMr.out.out
                clear h01 h02 h03
                go_wp2
                go_ret
                exact ⟨rfl, HB16.out.trans (HBr.out.mono hgw)⟩

end Go.Proofs.YtcclfmapbgdpdaaGreatDoor

/- l17Fits and FitsCar of the reference, at valid groups. -/
import Derived.Test.YtcclfmapbgdpdaaGreatDoorLoaH
import Derived.Test.YtcclfmapbgdpdaaGreatDoorLoaV
import Derived.Test.YtcclfmapbgdpdaaGreatDoorFill
import Derived.Deep.DeepCutAuto
namespace Go.Proofs.YtcclfmapbgdpdaaGreatDoor
open Go.RowKit
set_option linter.unusedVariables false

theorem sumL_take {nd : List RmZ} {S : List Int} {k : Nat} {y : Int} (h : S[k]? = some y) : sumL nd (S.take (k + 1)) = plusZ (sumL nd (S.take k)) (nd.getD y.toNat zeroR) := by rw [take_snoc h, sumL_snoc]

set_option maxHeartbeats 4000000 in
set_option maxRecDepth 100000 in
theorem l17Fits_calls (A D : Option Addr) (n c q e : Nat) (xs : List GrpZ) (S : List Int) (rp rb rk : Int) (bR oR : Nat) (w : World) (h : RdK kGrp w A n xs) (hv : grpsB xs = true) (hS : RdI w D q S) (hq : q ≤ 12) (hb : ∀ y ∈ S, 0 ≤ y ∧ y < (n : Int)) (hbR : bR < w.heap.size) (c0 : w.cell? ⟨bR, oR, none⟩ = some (.int .i64 rp)) (c1 : w.cell? ⟨bR, oR + 1, none⟩ = some (.int .i64 rb)) (c2 : w.cell? ⟨bR, oR + 2, none⟩ = some (.int .i64 rk)) :
    Calls Tryz.prog 144 #[.slice A n c, .slice D q e, .pointer (some ⟨bR, oR, none⟩)] w fun e' w' => e' = .returned (.bool (fitsZ (sumL (xs.map needZ) S) ⟨rp, rb, rk⟩)) ∧ Below w.heap.size w w' := by
  have HH := hide h
  have HV := hide hv
  have HS := hide hS
  have HSB := hide hb
  have HR : Hid (∀ W, Below w.heap.size w W → W.cell? ⟨bR, oR, none⟩ = some (.int .i64 rp) ∧ W.cell? ⟨bR, oR + 1, none⟩ = some (.int .i64 rb) ∧ W.cell? ⟨bR, oR + 2, none⟩ = some (.int .i64 rk)) := fun W hW => ⟨(hW.cell (p := ⟨bR, oR, none⟩) hbR).trans c0, (hW.cell (p := ⟨bR, oR + 1, none⟩) hbR).trans c1, (hW.cell (p := ⟨bR, oR + 2, none⟩) hbR).trans c2⟩
  clear h hv hS hb c0 c1 c2
  go_enter Tryz.func144, Tryz.ntmps144
  go_wp2_with fail
  go_loopw [7, 8, 9, 10, 11] (fun u1 u2 u3 i _ wr => ∃ (k : Nat) (p b t : Int), k ≤ q ∧ i = .int .i64 k ∧ u1 = .int .i64 p ∧ u2 = .int .i64 b ∧ u3 = .int .i64 t ∧ (0 ≤ p ∧ p ≤ 200 * k) ∧ (0 ≤ b ∧ b ≤ 40 * k) ∧ (0 ≤ t ∧ t ≤ 200000 * k) ∧ Hid (sumL (xs.map needZ) (S.take k) = ⟨p, b, t⟩) ∧ Below w.heap.size w wr) (fun _ _ _ i _ _ => q - (intOf i).toNat)
  case atStart => exact ⟨0, 0, 0, 0, Nat.zero_le _, rfl, rfl, rfl, rfl, by omega, by omega, by omega, rfl, Below.refl _ _⟩
  case round => as_aux_lemma =>
    obtain ⟨k, p, b, t, hk, rfl, rfl, rfl, rfl, hp, hb, ht, HSM, hbr⟩ := hrel
    by_cases hlt : k < q
    · obtain ⟨bs, os, y, hD, hbs, hy, hcy, hy1, hy2⟩ := (HS.out.below hbr (Nat.le_refl _)).at hlt
      have hyb := HSB.out y (List.mem_of_getElem? hy.out)
      obtain ⟨z, rfl⟩ : ∃ z : Nat, y = (z : Int) := ⟨y.toNat, by omega⟩
      have hzn : z < n := by omega
      obtain ⟨b0, off, f0, f1, f2, f3, hA, hbl, hx, d0, d1, d2, d3, hs0, hss⟩ := (HH.out.below hbr (Nat.le_refl _)).atGrp hzn
      obtain ⟨_, _, _, hg1, hg2, hg3⟩ := grp_ok (grps_mem HV.out _ (List.mem_of_getElem? hx.out))
      have hsum := sumL_take (nd := xs.map needZ) hy.out
      rw [HSM.out, Int.toNat_natCast, need_getD hx.out] at hsum
      have HSN : Hid (sumL (xs.map needZ) (S.take (k + 1)) = ⟨p + f1, b + f2, t + (75 * f1 + 15 * f2 + f3)⟩) := hsum
      obtain ⟨W, hW⟩ : ∃ W, W = wr.alloc (.cells #[.string f0, .int .i64 f1, .int .i64 f2, .int .i64 f3] 98) := ⟨_, rfl⟩
      have hbW : Below wr.heap.size wr W := by rw [hW]; exact (Below.refl _ _).alloc (Nat.le_refl _) _
      have e1 : W.cell? ⟨wr.heap.size, 1, none⟩ = some (.int .i64 f1) := by rw [hW]; simp
      have e2 : W.cell? ⟨wr.heap.size, 2, none⟩ = some (.int .i64 f2) := by rw [hW]; simp
      have e3 : W.cell? ⟨wr.heap.size, 3, none⟩ = some (.int .i64 f3) := by rw [hW]; simp
      have KI := hide (l17Kilos_calls f1 f2 f3 wr.heap.size 0 W ⟨by omega, hg1.2⟩ hg2 hg3 (by rw [Nat.zero_add]; exact e1) (by rw [Nat.zero_add]; exact e2) (by rw [Nat.zero_add]; exact e3))
      have HBW := hide (hbr.trans (hbW.mono hbr.size))
      have i1 : (0 : Int) ≤ (k : Int) := by omega
      have i2 : (k : Int) < (q : Int) := by omega
      have i3 : (0 : Int) ≤ (z : Int) := by omega
      have i4 : (z : Int) < (n : Int) := by omega
      subst hA
      subst hD
      clear hsum hx hy HSM hbW hyb
      go_upto_region 8 with fail
      rw [← hW]
      clear hW
      go_wp2_with fail
      refine KI.out.mono ?_
      rintro e' w3 ⟨rfl, j, rfl⟩
      have HB3 := hide (below_drewN HBW.out j)
      clear KI
      go_wp2
      go_roundw
      case rel => exact ⟨k + 1, p + f1, b + f2, t + (75 * f1 + 15 * f2 + f3), by omega, by go_num, rfl, rfl, rfl, by omega, by omega, by omega, HSN, HB3.out⟩
      case measure => simp [intOf]; omega
    · have hkq : k = q := by omega
      have hsm := HSM.out
      rw [List.take_of_length_le (by rw [HS.out.len]; omega)] at hsm
      obtain ⟨r0, r1, r2⟩ := HR.out wr hbr
      have HF : Hid (fitsZ (sumL (xs.map needZ) S) ⟨rp, rb, rk⟩ = (decide (p ≤ rp) && decide (b ≤ rb) && decide (t ≤ rk))) := by unfold Hid; rw [hsm]; rfl
      have HB := hide hbr
      clear hsm HSM hbr
      by_cases h1 : p ≤ rp
      case neg =>
        have HE : Hid (fitsZ (sumL (xs.map needZ) S) ⟨rp, rb, rk⟩ = false) := by unfold Hid; rw [HF.out, decide_eq_false h1]; rfl
        go_wp2
        go_ret
        exact ⟨ret_bool HE.out.symm, HB.out⟩
      by_cases h2 : b ≤ rb
      case neg =>
        have HE : Hid (fitsZ (sumL (xs.map needZ) S) ⟨rp, rb, rk⟩ = false) := by unfold Hid; rw [HF.out, decide_eq_false h2, Bool.and_false]; rfl
        go_wp2
        go_ret
        exact ⟨ret_bool HE.out.symm, HB.out⟩
      have HE : Hid (fitsZ (sumL (xs.map needZ) S) ⟨rp, rb, rk⟩ = decide (t ≤ rk)) := by unfold Hid; rw [HF.out, decide_eq_true h1, decide_eq_true h2]; rfl
      go_wp2
      go_ret
      exact ⟨ret_bool HE.out.symm, HB.out⟩

theorem ris_of {S : List Int} {lo hi : Int} (hp : S.Pairwise (· < ·)) (hb : ∀ y ∈ S, lo ≤ y ∧ y ≤ hi) : ∀ k, k ≤ S.length → risB S lo hi k = true
  | 0, _ => rfl
  | 1, h => by
    rw [risB_step0 (List.getElem?_eq_getElem (show 0 < S.length by omega))]
    exact withinB_iff.2 (hb _ (List.getElem_mem _))
  | k + 2, h => by
    have h1 := List.getElem?_eq_getElem (show k < S.length by omega)
    have h2 := List.getElem?_eq_getElem (show k + 1 < S.length by omega)
    rw [risB_step h2 h1, ris_of hp hb (k + 1) (by omega), withinB_iff.2 (hb _ (List.getElem_mem _)), decide_eq_true (List.pairwise_iff_getElem.1 hp k (k + 1) (by omega) (by omega) (by omega))]
    rfl

set_option maxHeartbeats 2000000 in
theorem specFitsCar_calls (A D : Option Addr) (n c q e : Nat) (xs : List GrpZ) (S : List Int) (rp rb rk : Int) (w : World) (h : RdK kGrp w A n xs) (hv : grpsB xs = true) (hr : roomB ⟨rp, rb, rk⟩ = true) (hS : RdI w D q S) (hp : S.Pairwise (· < ·)) (hb : ∀ y ∈ S, 0 ≤ y ∧ y < (n : Int)) (hq : q ≤ 12) :
    Calls Tryz.prog 60 #[.slice A n c, .slice D q e, .agg #[.int .i64 rp, .int .i64 rb, .int .i64 rk]] w fun e' w' => e' = .returned (.bool (fitsZ (sumL (xs.map needZ) S) ⟨rp, rb, rk⟩)) ∧ Below w.heap.size w w' := by
  have hn : n ≤ 12 := by have := grps_len hv; rw [h.2.1] at this; exact this
  obtain ⟨w0, hw0⟩ : ∃ w0, w0 = w.alloc (.cells #[.int .i64 rp, .int .i64 rb, .int .i64 rk] 87) := ⟨_, rfl⟩
  have hb0 : Below w.heap.size w w0 := by rw [hw0]; exact (Below.refl _ _).alloc (Nat.le_refl _) _
  have hz0 : w.heap.size < w0.heap.size := by rw [hw0]; simp
  have HA0 : Hid (At3 87 w0 w.heap.size (.int .i64 rp) (.int .i64 rb) (.int .i64 rk)) := by rw [hw0]; exact At3.new _ _ _ _ _
  have HX0 := hide (h.below hb0 (Nat.le_refl _))
  have HS0 := hide (hS.below hb0 (Nat.le_refl _))
  have OK := hide (l17Ok_calls A n c xs w0 HX0.out hv)
  have HB0 := hide hb0
  have HV := hide hv
  have HSB := hide hb
  have hris : risB S 0 ((n : Int) - 1) q = true := ris_of hp (fun y hy => by have := hb y hy; omega) q (by rw [hS.len]; exact Nat.le_refl _)
  have HRI := hide hris
  have HRO := hide (fun W (a0 : W.cell? ⟨w.heap.size, 0, none⟩ = some (.int .i64 rp)) (a1 : W.cell? ⟨w.heap.size, 0 + 1, none⟩ = some (.int .i64 rb)) (a2 : W.cell? ⟨w.heap.size, 0 + 2, none⟩ = some (.int .i64 rk)) => l17Room_calls rp rb rk w.heap.size 0 W hr a0 a1 a2)
  clear h hv hS hb0 hb hp hr hris
  go_enter Tryz.func60, Tryz.ntmps60
  go_upto_region 1 with fail
  rw [← hw0]
  clear hw0
  go_wp2_with fail
  refine OK.out.mono ?_
  rintro e1 w1 ⟨rfl, hb1⟩
  have HA1 := hide (HA0.out.below hb1 hz0)
  have HX1 := hide (HX0.out.below hb1 (Nat.le_refl _))
  have HS1 := hide (HS0.out.below hb1 (Nat.le_refl _))
  have HB1 := hide (HB0.out.trans (hb1.mono HB0.out.size))
  have hz1 := hb1.size
  obtain ⟨a0, a1, a2, _⟩ := HA1.out.out
  have R1 := hide (HRO.out w1 a0 a1 a2)
  clear a0 a1 a2 hb1 OK HA0 HX0 HS0 HB0
  go_wp2_with fail
  refine R1.out.mono ?_
  rintro e1 w' ⟨rfl, rfl⟩
  have RI := hide (l00Rises_calls D q e S 0 ((n : Int) - 1) w1 HS1.out (by omega))
  rw [HRI.out] at RI
  clear R1 HRO
  go_wp2_with fail
  refine RI.out.mono ?_
  rintro e1 w2 ⟨rfl, hj⟩
  have hb2 := below_of_draws hj
  have hA2 := HA1.out.below hb2 (by omega)
  obtain ⟨a0, a1, a2, _⟩ := hA2.out
  have FI := hide (l17Fits_calls A D n c q e xs S rp rb rk w.heap.size 0 w2 (HX1.out.below hb2 (Nat.le_refl _)) HV.out (HS1.out.below hb2 (Nat.le_refl _)) hq HSB.out (lt_blk hA2) a0 a1 a2)
  have HB2 := hide (HB1.out.trans (hb2.mono HB1.out.size))
  obtain ⟨ft, hft⟩ : ∃ ft, ft = fitsZ (sumL (xs.map needZ) S) ⟨rp, rb, rk⟩ := ⟨_, rfl⟩
  rw [← hft] at FI
  have HFT := hide hft
  clear hft
  clear hj hb2 hA2 a0 a1 a2 RI HA1 HX1 HS1 HB1
  go_wp2_with fail
  refine FI.out.mono ?_
  rintro e1 w3 ⟨rfl, hb3⟩
  have HB3 := hide (HB2.out.trans (hb3.mono HB2.out.size))
  clear hb3 FI
  go_wp2
  go_ret
  exact ⟨ret_bool HFT.out, HB3.out⟩

end Go.Proofs.YtcclfmapbgdpdaaGreatDoor

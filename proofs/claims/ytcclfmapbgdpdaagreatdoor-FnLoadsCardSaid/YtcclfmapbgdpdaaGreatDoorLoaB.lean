/- LeastRoom, FitsCar, GroupKilos of the program at valid groups. Printed by gen_loab.py. -/
import Derived.Test.YtcclfmapbgdpdaaGreatDoorLoaD
import Derived.Test.YtcclfmapbgdpdaaGreatDoorLoaH
import Derived.Test.YtcclfmapbgdpdaaGreatDoorLoaW
import Derived.Test.YtcclfmapbgdpdaaGreatDoorLoaY
import Derived.Deep.DeepCutAuto
namespace Go.Proofs.YtcclfmapbgdpdaaGreatDoor
open Go.RowKit
set_option linter.unusedVariables false

set_option maxHeartbeats 2000000 in
set_option maxRecDepth 100000 in
theorem groupKilos_calls (s : ByteArray) (p b k : Int) (w : World) (hv : grpB ⟨s, p, b, k⟩ = true) :
    Calls Tryz.prog 65 #[.agg #[.string s, .int .i64 p, .int .i64 b, .int .i64 k]] w fun e w' => e = .returned (.tuple #[.int .i64 (75 * p + 15 * b + k), .int .i64 0]) ∧ Below w.heap.size w w' := by
  obtain ⟨_, _, _, hg1, hg2, hg3⟩ := grp_ok hv
  obtain ⟨W, hW⟩ : ∃ W, W = w.alloc (.cells #[.string s, .int .i64 p, .int .i64 b, .int .i64 k] 98) := ⟨_, rfl⟩
  have hB : Below w.heap.size w W := by rw [hW]; exact (Below.refl _ _).alloc (Nat.le_refl _) _
  have HA : Hid (Ag4 98 W w.heap.size (.string s) (.int .i64 p) (.int .i64 b) (.int .i64 k)) := by rw [hW]; exact Ag4.new _ _ _ _ _ _
  have hz : w.heap.size < W.heap.size := by rw [hW]; simp
  obtain ⟨a0, a1, a2, a3, _⟩ := HA.out.out
  have VG := hide (validGroup_calls s p b k W hv)
  have NE := hide (fun W => need_calls s p b k W ⟨by omega, hg1.2⟩ hg2 hg3)
  have hfd : ∀ w : World, (Instr.field 87 (.agg #[.int .i64 p, .int .i64 b, .int .i64 (75 * p + 15 * b + k)]) 2).run Tryz.prog w = .ok (.int .i64 (75 * p + 15 * b + k)) w := fun _ => by kernel_rfl
  have HB := hide hB
  clear hB hv
  go_enter Tryz.func65, Tryz.ntmps65
  go_upto_region 1 with fail
  rw [← hW]
  clear hW
  go_wp2_with fail
  refine VG.out.mono ?_
  rintro e w2 ⟨rfl, hb2⟩
  clear a0 a1 a2 a3
  obtain ⟨a0, a1, a2, a3, _⟩ := (HA.out.below hb2 hz).out
  have HB2 := hide (HB.out.trans (hb2.mono HB.out.size))
  clear hb2
  go_wp2_with fail
  refine (NE.out w2).mono ?_
  rintro e w3 ⟨rfl, hb3⟩
  have HB3 := hide (HB2.out.trans (hb3.mono HB2.out.size))
  clear hb3 a0 a1 a2 a3
  go_wp2
  go_ret2
  exact ⟨rfl, HB3.out⟩

set_option maxHeartbeats 4000000 in
set_option maxRecDepth 100000 in
theorem leastRoom_calls (A : Option Addr) (n c : Nat) (xs : List GrpZ) (w : World) (h : RdK kGrp w A n xs) (hn6 : n ≤ 6) (hd : ∀ x ∈ xs, DrG x) (hv : grpsB xs = true) :
    Calls Tryz.prog 63 #[.slice A n c] w fun e w' => ∃ p b k : Int, e = .returned (.tuple #[.agg #[.int .i64 p, .int .i64 b, .int .i64 k], .int .i64 0]) ∧ sumQ (xs.map needZ) (fun _ => true) n = ⟨p, b, k⟩ ∧ (0 ≤ p ∧ p ≤ 200) ∧ (0 ≤ b ∧ b ≤ 40) ∧ (0 ≤ k ∧ k ≤ 100000) ∧ Below w.heap.size w w' := by
  obtain ⟨w0, hw0⟩ : ∃ w0, w0 = w.alloc (.cells #[.int .i64 0, .int .i64 0, .int .i64 0] 87) := ⟨_, rfl⟩
  have hb0 : Below w.heap.size w w0 := by rw [hw0]; exact (Below.refl _ _).alloc (Nat.le_refl _) _
  have hz0 : w.heap.size < w0.heap.size := by rw [hw0]; simp
  have HA0 : Hid (At3 87 w0 w.heap.size (.int .i64 0) (.int .i64 0) (.int .i64 0)) := by rw [hw0]; exact At3.new _ _ _ _ _
  have HX0 := hide (h.below hb0 (Nat.le_refl _))
  have VG := hide (implValidGroups_calls A n c xs w0 HX0.out hv)
  have HV := hide (And.intro hv hd)
  have HB0 := hide hb0
  clear h hb0 hv hd
  go_enter Tryz.func63, Tryz.ntmps63
  go_upto_region 1 with fail
  rw [← hw0]
  clear hw0
  go_wp2_with fail
  refine VG.out.mono ?_
  rintro e w1 ⟨rfl, hb1⟩
  have HA1 := hide (HA0.out.below hb1 hz0)
  have HX1' := hide (HX0.out.below hb1 (Nat.le_refl _))
  have HB1 := hide (HB0.out.trans (hb1.mono HB0.out.size))
  have hz1 := hb1.size
  clear hb1 VG HA0 HX0 HB0
  obtain ⟨g, hg⟩ : ∃ g, g = w1.heap.size := ⟨_, rfl⟩
  obtain ⟨w2, hw2⟩ : ∃ w2, w2 = w1.alloc (.cells #[.int .i64 0, .int .i64 0, .int .i64 0] 87) := ⟨_, rfl⟩
  have hb2 : Below g w1 w2 := by rw [hw2, hg]; exact (Below.refl _ _).alloc (Nat.le_refl _) _
  have HM2 : Hid (At3 87 w2 g (.int .i64 0) (.int .i64 0) (.int .i64 0)) := by rw [hw2, hg]; exact At3.new _ _ _ _ _
  have hgw : w.heap.size < g := by omega
  have hg1 : w1.heap.size ≤ g := by omega
  have HAL : Hid (∀ W, Below g w2 W → RdK kGrp W A n xs ∧ At3 87 W w.heap.size (.int .i64 0) (.int .i64 0) (.int .i64 0)) := fun W hW => ⟨HX1'.out.below (hb2.trans hW) hg1, HA1.out.below (hb2.trans hW) hgw⟩
  have HB2 := hide (HB1.out.trans (hb2.mono (Nat.le_of_lt hgw)))
  clear HX1' HA1 HB1 hb2
  go_upto_region 4 with fail
  rw [← hw2, ← hg]
  clear hw2 hg
  go_wp2_with fail
  go_loopw [6, 13] (fun _ i wr => ∃ (k : Nat) (p q t : Int), k ≤ n ∧ i = .int .i64 k ∧ (0 ≤ p ∧ p ≤ 20 * k) ∧ (0 ≤ q ∧ q ≤ 5 * k) ∧ (0 ≤ t ∧ t ≤ 2000 * k) ∧ Hid (sumQ (xs.map needZ) (fun _ => true) k = ⟨p, q, t⟩) ∧ Hid (At3 87 wr g (.int .i64 p) (.int .i64 q) (.int .i64 t)) ∧ Hid (Below g w2 wr)) (fun _ i _ => n - (intOf i).toNat)
  case atStart => exact ⟨0, 0, 0, 0, Nat.zero_le _, rfl, by omega, by omega, by omega, rfl, HM2.out, Below.refl _ _⟩
  case round => as_aux_lemma =>
    obtain ⟨k, p, q, t, hk, rfl, hp, hq, ht, HSU, HMr, HBr⟩ := hrel
    have hgr := lt_blk HMr.out
    by_cases hlt : k < n
    · obtain ⟨b0, off, f0, f1, f2, f3, hA, hbl, hx, c0, c1, c2, c3, hs0, hss⟩ := (HAL.out wr HBr.out).1.atGrp hlt
      obtain ⟨_, _, _, hg1', hg2', hg3'⟩ := grp_ok (grps_mem HV.out.1 _ (List.mem_of_getElem? hx.out))
      obtain ⟨_, hd1, hd2, hd3⟩ := HV.out.2 _ (List.mem_of_getElem? hx.out)
      simp only at hd1 hd2 hd3
      obtain ⟨kx, hkx⟩ : ∃ kx : Int, kx = 75 * f1 + 15 * f2 + f3 := ⟨_, rfl⟩
      have hkx1 : 0 ≤ kx ∧ kx ≤ 2000 := by omega
      have HSN : Hid (sumQ (xs.map needZ) (fun _ => true) (k + 1) = ⟨p + f1, q + f2, t + kx⟩) := by
        unfold Hid
        rw [sumQ, HSU.out, need_getD hx.out, ← hkx]
        rfl
      have HNE : Hid (∀ W, Calls Tryz.prog 135 #[.agg #[.string f0, .int .i64 f1, .int .i64 f2, .int .i64 f3]] W fun e w' => e = .returned (.agg #[.int .i64 f1, .int .i64 f2, .int .i64 kx]) ∧ Below W.heap.size W w') := fun W => by
        have h := need_calls f0 f1 f2 f3 W ⟨by omega, hg1'.2⟩ hg2' hg3'
        rw [← hkx] at h
        exact h
      have HPL : Hid (∀ W, Calls Tryz.prog 134 #[.agg #[.int .i64 p, .int .i64 q, .int .i64 t], .agg #[.int .i64 f1, .int .i64 f2, .int .i64 kx]] W fun e w' => e = .returned (.agg #[.int .i64 (p + f1), .int .i64 (q + f2), .int .i64 (t + kx)]) ∧ Below W.heap.size W w') := fun W => plus_calls p q t f1 f2 kx W (by unfold SmR; simp only; omega) (by unfold SmR; simp only; omega)
      obtain ⟨bx, hbx⟩ : ∃ bx, bx = wr.heap.size := ⟨_, rfl⟩
      obtain ⟨W1, hW1⟩ : ∃ W1, W1 = wr.alloc (.cells #[.string f0, .int .i64 f1, .int .i64 f2, .int .i64 f3] 98) := ⟨_, rfl⟩
      have hbW : Below wr.heap.size wr W1 := by rw [hW1]; exact (Below.refl _ _).alloc (Nat.le_refl _) _
      have HX1 : Hid (Ag4 98 W1 bx (.string f0) (.int .i64 f1) (.int .i64 f2) (.int .i64 f3)) := by rw [hW1, hbx]; exact Ag4.new _ _ _ _ _ _
      have HM1 := hide (HMr.out.below hbW hgr)
      have hgbx : g < bx := by omega
      have HBW := hide hbW
      subst hA
      clear hx hkx hbW
      go_upto_region 7 with fail
      rw [← hW1, ← hbx]
      clear hW1 hbx c0 c1 c2 c3
      obtain ⟨wd, hwd⟩ : ∃ wd : World, wd = W1.drew := ⟨_, rfl⟩
      have HS0 : Hid ((fun W => Ag4 98 W bx (.string f0) (.int .i64 f1) (.int .i64 f2) (.int .i64 f3)) wd) := by rw [hwd]; exact HX1.out
      have HWD := hide hwd
      have HBd : Hid (Below W1.heap.size W1 wd) := by rw [HWD.out]; exact (Below.refl _ _).drew
      have HMd : Hid (At3 87 wd g (.int .i64 p) (.int .i64 q) (.int .i64 t)) := by rw [HWD.out]; exact HM1.out
      refine wp_region_held_drew (S := fun W => Ag4 98 W bx (.string f0) (.int .i64 f1) (.int .i64 f2) (.int .i64 f3)) (by kernel_rfl) (by rw [← hwd]; exact HS0.out) (fun _ => ?_)
      rw [← hwd]
      clear hwd
      refine takeH 1 18 (.agg #[.string f0, .int .i64 f1, .int .i64 f2, .int .i64 f3]) ⟨_, rfl, rfl, rfl, ?_⟩ (by kernel_rfl) (by kernel_rfl) (by kernel_rfl) (fun _ _ _ h => h) HS0.out ?_
      · intro wz hSw; obtain ⟨x0, x1, x2, x3, _⟩ := Ag4.out (show Ag4 98 wz bx (.string f0) (.int .i64 f1) (.int .i64 f2) (.int .i64 f3) from hSw); go_simp
      try simp only [Act.put, List.setIfInBounds_toArray, List.set_cons_zero, List.set_cons_succ]
      refine wpAnyH_ready (rs := [0, 2]) (by kernel_rfl) (by simp) ?_
      refine AllReadyH.cons rfl (fun K hK => ?_) (AllReadyH.cons rfl (fun K hK => ?_) AllReadyH.nil)
      · obtain ⟨l0, l1, l2, _⟩ := HMd.out.out
        go_simp
        try go_wp2_with fail
        refine hK.out _ _ HS0.out (fun _ => ?_)
        clear l0 l1 l2
        clear hK K
        try simp only [Act.put, List.setIfInBounds_toArray, List.set_cons_zero, List.set_cons_succ]
        refine wpAnyH_ready (rs := [2]) (by kernel_rfl) (by simp) ?_
        refine AllReadyH.cons rfl (fun K hK => ?_) AllReadyH.nil
        go_simp
        refine (HNE.out wd).mono ?_
        rintro e wq2 ⟨rfl, hb2⟩
        have HBq2 := hide (HBd.out.trans (hb2.mono HBd.out.size))
        have HMq2 := hide (HMd.out.below hb2 (lt_blk HMd.out))
        have HSq2 := hide (Ag4.below HS0.out hb2 (Array.getElem?_eq_some_iff.1 HS0.out).1)
        clear hb2
        try go_wp2_with fail
        refine hK.out _ _ HSq2.out (fun _ => ?_)
        clear hK K
        try simp only [Act.put, List.setIfInBounds_toArray, List.set_cons_zero, List.set_cons_succ]
        refine wpAnyH_ready (rs := [3]) (by kernel_rfl) (by simp) ?_
        refine AllReadyH.cons rfl (fun K hK => ?_) AllReadyH.nil
        go_simp
        refine (HPL.out wq2).mono ?_
        rintro e wq3 ⟨rfl, hb3⟩
        have HBq3 := hide (HBq2.out.trans (hb3.mono HBq2.out.size))
        have HMq3 := hide (HMq2.out.below hb3 (lt_blk HMq2.out))
        have HSq3 := hide (Ag4.below HSq2.out hb3 (Array.getElem?_eq_some_iff.1 HSq2.out).1)
        clear hb3
        try go_wp2_with fail
        refine hK.out _ _ HSq3.out (fun _ => ?_)
        clear hK K
        try simp only [Act.put, List.setIfInBounds_toArray, List.set_cons_zero, List.set_cons_succ]
        refine wpAnyH_ready (rs := [4]) (by kernel_rfl) (by simp) ?_
        refine AllReadyH.cons rfl (fun K hK => ?_) AllReadyH.nil
        obtain ⟨l0, l1, l2, m0, m1, m2⟩ := HMq3.out.out
        have HMq4 : Hid (At3 87 (((World.setCell wq3 ⟨g, 0, none⟩ (.int .i64 (p + f1))).setCell ⟨g, 1, none⟩ (.int .i64 (q + f2))).setCell ⟨g, 2, none⟩ (.int .i64 (t + kx))) g (.int .i64 (p + f1)) (.int .i64 (q + f2)) (.int .i64 (t + kx))) := HMq3.out.all
        have HWq4 : Hid (Wr g (g + 1) wq3 (((World.setCell wq3 ⟨g, 0, none⟩ (.int .i64 (p + f1))).setCell ⟨g, 1, none⟩ (.int .i64 (q + f2))).setCell ⟨g, 2, none⟩ (.int .i64 (t + kx)))) := wr_set3
        have HSq4 := hide (Ag4.wr HSq3.out HWq4.out (by omega))
        go_simp
        try go_wp2_with fail
        refine hK.out _ _ HSq4.out (fun _ => ?_)
        clear l0 l1 l2 m0 m1 m2
        clear hK K
        try simp only [Act.put, List.setIfInBounds_toArray, List.set_cons_zero, List.set_cons_succ]
        refine wpAnyH_done (by kernel_rfl) ?_ _
        go_wp2
        go_roundw
        case rel => exact ⟨k + 1, p + f1, q + f2, t + kx, by omega, by go_num, by omega, by omega, by omega, HSN, HMq4, Wr.below (HBr.out.trans (HBW.out.mono (Nat.le_of_lt hgr))) (show Wr g (g + 1) W1 _ from Wr.trans (by have h := Wr.of_below (lo := g) (hi := g + 1) HBq3.out; exact (show Wr g (g + 1) W1 _ from h)) HWq4.out) (Nat.le_refl _) (Nat.le_of_lt (lt_blk HM1.out))⟩
        case measure => simp [intOf]; omega
      · go_simp
        refine (HNE.out wd).mono ?_
        rintro e wq5 ⟨rfl, hb5⟩
        have HBq5 := hide (HBd.out.trans (hb5.mono HBd.out.size))
        have HMq5 := hide (HMd.out.below hb5 (lt_blk HMd.out))
        have HSq5 := hide (Ag4.below HS0.out hb5 (Array.getElem?_eq_some_iff.1 HS0.out).1)
        clear hb5
        try go_wp2_with fail
        refine hK.out _ _ HSq5.out (fun _ => ?_)
        clear hK K
        try simp only [Act.put, List.setIfInBounds_toArray, List.set_cons_zero, List.set_cons_succ]
        refine wpAnyH_ready (rs := [0]) (by kernel_rfl) (by simp) ?_
        refine AllReadyH.cons rfl (fun K hK => ?_) AllReadyH.nil
        obtain ⟨l0, l1, l2, _⟩ := HMq5.out.out
        go_simp
        try go_wp2_with fail
        refine hK.out _ _ HSq5.out (fun _ => ?_)
        clear l0 l1 l2
        clear hK K
        try simp only [Act.put, List.setIfInBounds_toArray, List.set_cons_zero, List.set_cons_succ]
        refine wpAnyH_ready (rs := [3]) (by kernel_rfl) (by simp) ?_
        refine AllReadyH.cons rfl (fun K hK => ?_) AllReadyH.nil
        go_simp
        refine (HPL.out wq5).mono ?_
        rintro e wq7 ⟨rfl, hb7⟩
        have HBq7 := hide (HBq5.out.trans (hb7.mono HBq5.out.size))
        have HMq7 := hide (HMq5.out.below hb7 (lt_blk HMq5.out))
        have HSq7 := hide (Ag4.below HSq5.out hb7 (Array.getElem?_eq_some_iff.1 HSq5.out).1)
        clear hb7
        try go_wp2_with fail
        refine hK.out _ _ HSq7.out (fun _ => ?_)
        clear hK K
        try simp only [Act.put, List.setIfInBounds_toArray, List.set_cons_zero, List.set_cons_succ]
        refine wpAnyH_ready (rs := [4]) (by kernel_rfl) (by simp) ?_
        refine AllReadyH.cons rfl (fun K hK => ?_) AllReadyH.nil
        obtain ⟨l0, l1, l2, m0, m1, m2⟩ := HMq7.out.out
        have HMq8 : Hid (At3 87 (((World.setCell wq7 ⟨g, 0, none⟩ (.int .i64 (p + f1))).setCell ⟨g, 1, none⟩ (.int .i64 (q + f2))).setCell ⟨g, 2, none⟩ (.int .i64 (t + kx))) g (.int .i64 (p + f1)) (.int .i64 (q + f2)) (.int .i64 (t + kx))) := HMq7.out.all
        have HWq8 : Hid (Wr g (g + 1) wq7 (((World.setCell wq7 ⟨g, 0, none⟩ (.int .i64 (p + f1))).setCell ⟨g, 1, none⟩ (.int .i64 (q + f2))).setCell ⟨g, 2, none⟩ (.int .i64 (t + kx)))) := wr_set3
        have HSq8 := hide (Ag4.wr HSq7.out HWq8.out (by omega))
        go_simp
        try go_wp2_with fail
        refine hK.out _ _ HSq8.out (fun _ => ?_)
        clear l0 l1 l2 m0 m1 m2
        clear hK K
        try simp only [Act.put, List.setIfInBounds_toArray, List.set_cons_zero, List.set_cons_succ]
        refine wpAnyH_done (by kernel_rfl) ?_ _
        go_wp2
        go_roundw
        case rel => exact ⟨k + 1, p + f1, q + f2, t + kx, by omega, by go_num, by omega, by omega, by omega, HSN, HMq8, Wr.below (HBr.out.trans (HBW.out.mono (Nat.le_of_lt hgr))) (show Wr g (g + 1) W1 _ from Wr.trans (by have h := Wr.of_below (lo := g) (hi := g + 1) HBq7.out; exact (show Wr g (g + 1) W1 _ from h)) HWq8.out) (Nat.le_refl _) (Nat.le_of_lt (lt_blk HM1.out))⟩
        case measure => simp [intOf]; omega
    · obtain rfl : n = k := by omega
      obtain ⟨l0, l1, l2, _⟩ := HMr.out.out
      have hroom : roomB ⟨p, q, t⟩ = true := by
        unfold roomB
        simp only [Bool.and_eq_true]
        exact ⟨withinB_iff.2 (by omega), withinB_iff.2 (by omega), withinB_iff.2 (by omega)⟩
      have VR := hide (implValidRoom_calls ⟨p, q, t⟩ wr hroom)
      have HA4 := hide (HAL.out wr HBr.out).2
      have HB4 := hide (HB2.out.trans (HBr.out.mono (Nat.le_of_lt hgw)))
      clear hroom
      go_wp2_with fail
      refine VR.out.mono ?_
      rintro e w5 ⟨rfl, hb5⟩
      clear l0 l1 l2
      obtain ⟨l0, l1, l2, _⟩ := (HMr.out.below hb5 hgr).out
      obtain ⟨m0, m1, m2, k0, k1, k2⟩ := (HA4.out.below hb5 (by omega)).out
      have HB5 := hide (HB4.out.trans (hb5.mono HB4.out.size))
      clear hb5 VR
      go_wp2
      refine bodyPost_ret (v := .tuple #[.agg #[.int .i64 p, .int .i64 q, .int .i64 t], .int .i64 0]) (by simp [results, Tryz.results63, go_sem, *]) rfl ?_
      exact ⟨p, q, t, rfl, HSU.out, by omega, by omega, by omega, below_set3 HB5.out (Nat.le_refl _)⟩

set_option maxHeartbeats 4000000 in
set_option maxRecDepth 100000 in
theorem implFitsCar_calls (A D : Option Addr) (n c q' e' : Nat) (xs : List GrpZ) (S : List Int) (rp rb rk : Int) (w : World) (h : RdK kGrp w A n xs) (hv : grpsB xs = true) (hr : roomB ⟨rp, rb, rk⟩ = true) (hS : RdI w D q' S) (hp : S.Pairwise (· < ·)) (hb : ∀ y ∈ S, 0 ≤ y ∧ y < (n : Int)) (hq' : q' ≤ 12) (hfit : fitsZ (sumL (xs.map needZ) S) ⟨rp, rb, rk⟩ = true) :
    Calls Tryz.prog 62 #[.slice A n c, .slice D q' e', .agg #[.int .i64 rp, .int .i64 rb, .int .i64 rk]] w fun e w' => e = .returned (.bool true) ∧ Below w.heap.size w w' := by
  have hn : n ≤ 12 := by have := grps_len hv; rw [h.2.1] at this; exact this
  obtain ⟨w0, hw0⟩ : ∃ w0, w0 = w.alloc (.cells #[.int .i64 rp, .int .i64 rb, .int .i64 rk] 87) := ⟨_, rfl⟩
  have hb0 : Below w.heap.size w w0 := by rw [hw0]; exact (Below.refl _ _).alloc (Nat.le_refl _) _
  have hz0 : w.heap.size < w0.heap.size := by rw [hw0]; simp
  have HA0 : Hid (At3 87 w0 w.heap.size (.int .i64 rp) (.int .i64 rb) (.int .i64 rk)) := by rw [hw0]; exact At3.new _ _ _ _ _
  have HX0 := hide (h.below hb0 (Nat.le_refl _))
  have HS0 := hide (hS.below hb0 (Nat.le_refl _))
  have VG := hide (implValidGroups_calls A n c xs w0 HX0.out hv)
  have VR := hide (fun W => implValidRoom_calls ⟨rp, rb, rk⟩ W hr)
  have HV := hide hv
  have HPW := hide hp
  have HSB := hide hb
  have HFIT := hide hfit
  have HB0 := hide hb0
  clear h hb0 hv hS hr hp hb hfit
  go_enter Tryz.func62, Tryz.ntmps62
  go_upto_region 1 with fail
  rw [← hw0]
  clear hw0
  go_wp2_with fail
  refine VG.out.mono ?_
  rintro e w1' ⟨rfl, hb1⟩
  have HA1' := hide (HA0.out.below hb1 hz0)
  have HX1' := hide (HX0.out.below hb1 (Nat.le_refl _))
  have HS1' := hide (HS0.out.below hb1 (Nat.le_refl _))
  have HB1' := hide (HB0.out.trans (hb1.mono HB0.out.size))
  have hz1' := hb1.size
  obtain ⟨a0, a1, a2, _⟩ := HA1'.out.out
  clear hb1 VG HA0 HX0 HS0 HB0
  go_wp2_with fail
  refine (VR.out w1').mono ?_
  rintro e w1 ⟨rfl, hb1⟩
  have HA1 := hide (HA1'.out.below hb1 (by omega))
  have HX1 := hide (HX1'.out.below hb1 (Nat.le_refl _))
  have HS1 := hide (HS1'.out.below hb1 (Nat.le_refl _))
  have HB1 := hide (HB1'.out.trans (hb1.mono HB1'.out.size))
  have hz1 := hb1.size
  clear a0 a1 a2 hb1 VR HA1' HX1' HS1' HB1'
  obtain ⟨g, hg⟩ : ∃ g, g = w1.heap.size := ⟨_, rfl⟩
  obtain ⟨w2, hw2⟩ : ∃ w2, w2 = w1.alloc (.cells #[.int .i64 0, .int .i64 0, .int .i64 0] 87) := ⟨_, rfl⟩
  have hb2 : Below g w1 w2 := by rw [hw2, hg]; exact (Below.refl _ _).alloc (Nat.le_refl _) _
  have HM2 : Hid (At3 87 w2 g (.int .i64 0) (.int .i64 0) (.int .i64 0)) := by rw [hw2, hg]; exact At3.new _ _ _ _ _
  have hgw : w.heap.size < g := by omega
  have hg1 : w1.heap.size ≤ g := by omega
  have HAL : Hid (∀ W, Below g w2 W → RdK kGrp W A n xs ∧ At3 87 W w.heap.size (.int .i64 rp) (.int .i64 rb) (.int .i64 rk) ∧ RdI W D q' S) := fun W hW => ⟨HX1.out.below (hb2.trans hW) hg1, HA1.out.below (hb2.trans hW) hgw, HS1.out.below (hb2.trans hW) hg1⟩
  have HB2 := hide (HB1.out.trans (hb2.mono (Nat.le_of_lt hgw)))
  clear HX1 HA1 HS1 HB1 hb2
  go_upto_region 4 with fail
  rw [← hw2, ← hg]
  clear hw2 hg
  go_wp2_with fail
  go_loopw [8, 10, 21] (fun la _ i wr => ∃ (k : Nat) (lv p q t : Int), k ≤ q' ∧ i = .int .i64 k ∧ la = .int .i64 lv ∧ (-1 ≤ lv ∧ lv ≤ 12) ∧ (0 ≤ p ∧ p ≤ 200 * k) ∧ (0 ≤ q ∧ q ≤ 40 * k) ∧ (0 ≤ t ∧ t ≤ 200000 * k) ∧ Hid (∀ y, S[k]? = some y → lv < y) ∧ Hid (sumL (xs.map needZ) (S.take k) = ⟨p, q, t⟩) ∧ Hid (At3 87 wr g (.int .i64 p) (.int .i64 q) (.int .i64 t)) ∧ Hid (Below g w2 wr)) (fun _ _ i _ => q' - (intOf i).toNat)
  case atStart => exact ⟨0, -1, 0, 0, 0, Nat.zero_le _, rfl, rfl, by omega, by omega, by omega, by omega, fun y hy => by have := HSB.out y (List.mem_of_getElem? hy); omega, rfl, HM2.out, Below.refl _ _⟩
  case round => as_aux_lemma =>
    obtain ⟨k, lv, p, q, t, hk, rfl, rfl, hlv, hp, hq, ht, HLV, HSU, HMr, HBr⟩ := hrel
    have hgr := lt_blk HMr.out
    by_cases hlt : k < q'
    · obtain ⟨bs, os, y, hD, hbs, hy, hcy, hy1, hy2⟩ := (HAL.out wr HBr.out).2.2.at hlt
      have hyb := HSB.out y (List.mem_of_getElem? hy.out)
      have hly := HLV.out y hy.out
      obtain ⟨z, rfl⟩ : ∃ z : Nat, y = (z : Int) := ⟨y.toNat, by omega⟩
      have hzn : z < n := by omega
      obtain ⟨b0, off, f0, f1, f2, f3, hA, hbl, hx, c0, c1, c2, c3, hs0, hss⟩ := (HAL.out wr HBr.out).1.atGrp hzn
      obtain ⟨_, _, _, hg1', hg2', hg3'⟩ := grp_ok (grps_mem HV.out _ (List.mem_of_getElem? hx.out))
      obtain ⟨kx, hkx⟩ : ∃ kx : Int, kx = 75 * f1 + 15 * f2 + f3 := ⟨_, rfl⟩
      have hkx1 : 0 ≤ kx ∧ kx ≤ 200000 := by omega
      have hsum := sumL_take (nd := xs.map needZ) hy.out
      rw [HSU.out, Int.toNat_natCast, need_getD hx.out, ← hkx] at hsum
      have HSN : Hid (sumL (xs.map needZ) (S.take (k + 1)) = ⟨p + f1, q + f2, t + kx⟩) := hsum
      have HLN : Hid (∀ y, S[k + 1]? = some y → (z : Int) < y) := fun y hy' => by
        obtain ⟨q1, q2⟩ := List.getElem?_eq_some_iff.1 hy.out
        obtain ⟨q3, q4⟩ := List.getElem?_eq_some_iff.1 hy'
        have h9 := List.pairwise_iff_getElem.1 HPW.out k (k + 1) q1 q3 (by omega)
        rwa [q2, q4] at h9
      have HNE : Hid (∀ W, Calls Tryz.prog 135 #[.agg #[.string f0, .int .i64 f1, .int .i64 f2, .int .i64 f3]] W fun e w' => e = .returned (.agg #[.int .i64 f1, .int .i64 f2, .int .i64 kx]) ∧ Below W.heap.size W w') := fun W => by
        have h := need_calls f0 f1 f2 f3 W ⟨by omega, hg1'.2⟩ hg2' hg3'
        rw [← hkx] at h
        exact h
      have HPL : Hid (∀ W, Calls Tryz.prog 134 #[.agg #[.int .i64 p, .int .i64 q, .int .i64 t], .agg #[.int .i64 f1, .int .i64 f2, .int .i64 kx]] W fun e w' => e = .returned (.agg #[.int .i64 (p + f1), .int .i64 (q + f2), .int .i64 (t + kx)]) ∧ Below W.heap.size W w') := fun W => plus_calls p q t f1 f2 kx W (by unfold SmR; simp only; omega) (by unfold SmR; simp only; omega)
      have SZ := hide (sizeG_calls (some ⟨b0, off, none⟩) n c wr (by omega))
      have WI := hide (within_calls (z : Int) (lv + 1) ((n : Int) - 1) wr)
      rw [withinB_iff.2 ⟨by omega, by omega⟩] at WI
      obtain ⟨W1, hW1⟩ : ∃ W1 : World, W1 = wr := ⟨_, rfl⟩
      have HCL : Hid (∀ W, Below g W1 W → W.cell? ⟨b0, off + z * 4, none⟩ = some (.string f0) ∧ W.cell? ⟨b0, off + z * 4 + 1, none⟩ = some (.int .i64 f1) ∧ W.cell? ⟨b0, off + z * 4 + 2, none⟩ = some (.int .i64 f2) ∧ W.cell? ⟨b0, off + z * 4 + 3, none⟩ = some (.int .i64 f3)) := fun W hW => by
        have h9 := (HAL.out W (HBr.out.trans (hW1 ▸ hW))).1
        rw [hA] at h9
        exact grp_cellsF h9 hzn hx.out
      have HM1 : Hid (At3 87 W1 g (.int .i64 p) (.int .i64 q) (.int .i64 t)) := by rw [hW1]; exact HMr.out
      have HW1 := hide hW1
      have i1 : (0 : Int) ≤ (k : Int) := by omega
      have i2 : (k : Int) < (q' : Int) := by omega
      have i3 : (0 : Int) ≤ (z : Int) := by omega
      have i4 : (z : Int) < (n : Int) := by omega
      have hA9 := hA
      subst hA
      subst hD
      clear hx hkx hsum hy hW1 hA9 hyb hly c0 c1 c2 c3
      go_wp2_with fail
      refine SZ.out.mono ?_
      rintro e w' ⟨rfl, rfl⟩
      go_wp2_with fail
      refine WI.out.mono ?_
      rintro e w' ⟨rfl, rfl⟩
      clear SZ WI hcy
      go_upto_region 10 with fail
      rw [← HW1.out]
      go_cut [] (fun wx => Hid (At3 87 wx g (.int .i64 (p + f1)) (.int .i64 (q + f2)) (.int .i64 (t + kx))) ∧ Hid (Wr g (g + 1) W1 wx))
      case first => as_aux_lemma =>
        --[
        obtain ⟨wd, hwd⟩ : ∃ wd : World, wd = W1.drew := ⟨_, rfl⟩
        have HS0 : Hid ((fun W => Below g W1 W) wd) := by rw [hwd]; exact (Below.refl g W1).drew
        have HWD := hide hwd
        have HBd : Hid (Below W1.heap.size W1 wd) := by rw [HWD.out]; exact (Below.refl _ _).drew
        have HMd : Hid (At3 87 wd g (.int .i64 p) (.int .i64 q) (.int .i64 t)) := by rw [HWD.out]; exact HM1.out
        refine wp_region_held_drew (S := fun W => Below g W1 W) (by kernel_rfl) (by rw [← hwd]; exact HS0.out) (fun _ => ?_)
        rw [← hwd]
        clear hwd
        refine takeH 1 34 (.slice (some ⟨b0, off, none⟩) n c) ⟨_, rfl, rfl, rfl, ?_⟩ (by kernel_rfl) (by kernel_rfl) (by kernel_rfl) (fun _ _ _ h => h) HS0.out ?_
        · intro wz hSw; go_simp
        try simp only [Act.put, List.setIfInBounds_toArray, List.set_cons_zero, List.set_cons_succ]
        refine takeH 2 35 (.int .i64 (z : Int)) ⟨_, rfl, rfl, rfl, ?_⟩ (by kernel_rfl) (by kernel_rfl) (by kernel_rfl) (fun _ _ _ h => h) HS0.out ?_
        · intro wz hSw; go_simp
        try simp only [Act.put, List.setIfInBounds_toArray, List.set_cons_zero, List.set_cons_succ]
        refine takeH 3 36 (.pointer (some ⟨b0, off + z * 4, none⟩)) ⟨_, rfl, rfl, rfl, ?_⟩ (by kernel_rfl) (by kernel_rfl) (by kernel_rfl) (fun _ _ _ h => h) HS0.out ?_
        · intro wz hSw; go_simp
        try simp only [Act.put, List.setIfInBounds_toArray, List.set_cons_zero, List.set_cons_succ]
        refine takeH 4 37 (.agg #[.string f0, .int .i64 f1, .int .i64 f2, .int .i64 f3]) ⟨_, rfl, rfl, rfl, ?_⟩ (by kernel_rfl) (by kernel_rfl) (by kernel_rfl) (fun _ _ _ h => h) HS0.out ?_
        · intro wz hSw; obtain ⟨x0, x1, x2, x3⟩ := HCL.out wz hSw; go_simp
        try simp only [Act.put, List.setIfInBounds_toArray, List.set_cons_zero, List.set_cons_succ]
        refine wpAnyH_ready (rs := [0, 5]) (by kernel_rfl) (by simp) ?_
        refine AllReadyH.cons rfl (fun K hK => ?_) (AllReadyH.cons rfl (fun K hK => ?_) AllReadyH.nil)
        · obtain ⟨l0, l1, l2, _⟩ := HMd.out.out
          go_simp
          try go_wp2_with fail
          refine hK.out _ _ HS0.out (fun _ => ?_)
          clear l0 l1 l2
          clear hK K
          try simp only [Act.put, List.setIfInBounds_toArray, List.set_cons_zero, List.set_cons_succ]
          refine wpAnyH_ready (rs := [5]) (by kernel_rfl) (by simp) ?_
          refine AllReadyH.cons rfl (fun K hK => ?_) AllReadyH.nil
          go_simp
          refine (HNE.out wd).mono ?_
          rintro e wq2 ⟨rfl, hb2⟩
          have HBq2 := hide (HBd.out.trans (hb2.mono HBd.out.size))
          have HMq2 := hide (HMd.out.below hb2 (lt_blk HMd.out))
          have HSq2 := hide (Below.trans HS0.out (hb2.mono (Nat.le_of_lt (lt_blk HMd.out))))
          clear hb2
          try go_wp2_with fail
          refine hK.out _ _ HSq2.out (fun _ => ?_)
          clear hK K
          try simp only [Act.put, List.setIfInBounds_toArray, List.set_cons_zero, List.set_cons_succ]
          refine wpAnyH_ready (rs := [6]) (by kernel_rfl) (by simp) ?_
          refine AllReadyH.cons rfl (fun K hK => ?_) AllReadyH.nil
          go_simp
          refine (HPL.out wq2).mono ?_
          rintro e wq3 ⟨rfl, hb3⟩
          have HBq3 := hide (HBq2.out.trans (hb3.mono HBq2.out.size))
          have HMq3 := hide (HMq2.out.below hb3 (lt_blk HMq2.out))
          have HSq3 := hide (Below.trans HSq2.out (hb3.mono (Nat.le_of_lt (lt_blk HMq2.out))))
          clear hb3
          try go_wp2_with fail
          refine hK.out _ _ HSq3.out (fun _ => ?_)
          clear hK K
          try simp only [Act.put, List.setIfInBounds_toArray, List.set_cons_zero, List.set_cons_succ]
          refine wpAnyH_ready (rs := [7]) (by kernel_rfl) (by simp) ?_
          refine AllReadyH.cons rfl (fun K hK => ?_) AllReadyH.nil
          obtain ⟨l0, l1, l2, m0, m1, m2⟩ := HMq3.out.out
          have HMq4 : Hid (At3 87 (((World.setCell wq3 ⟨g, 0, none⟩ (.int .i64 (p + f1))).setCell ⟨g, 1, none⟩ (.int .i64 (q + f2))).setCell ⟨g, 2, none⟩ (.int .i64 (t + kx))) g (.int .i64 (p + f1)) (.int .i64 (q + f2)) (.int .i64 (t + kx))) := HMq3.out.all
          have HWq4 : Hid (Wr g (g + 1) wq3 (((World.setCell wq3 ⟨g, 0, none⟩ (.int .i64 (p + f1))).setCell ⟨g, 1, none⟩ (.int .i64 (q + f2))).setCell ⟨g, 2, none⟩ (.int .i64 (t + kx)))) := wr_set3
          have HSq4 := hide (Wr.below HSq3.out HWq4.out (Nat.le_refl _) (Nat.le_of_lt (lt_blk HMq3.out)))
          go_simp
          try go_wp2_with fail
          refine hK.out _ _ HSq4.out (fun _ => ?_)
          clear l0 l1 l2 m0 m1 m2
          clear hK K
          try simp only [Act.put, List.setIfInBounds_toArray, List.set_cons_zero, List.set_cons_succ]
          refine wpAnyH_done (by kernel_rfl) ?_ _
          go_wp2_with fail
          go_meet
          case rel => exact ⟨HMq4, Wr.trans (Wr.of_below HBq3.out) HWq4.out⟩
        · go_simp
          refine (HNE.out wd).mono ?_
          rintro e wq5 ⟨rfl, hb5⟩
          have HBq5 := hide (HBd.out.trans (hb5.mono HBd.out.size))
          have HMq5 := hide (HMd.out.below hb5 (lt_blk HMd.out))
          have HSq5 := hide (Below.trans HS0.out (hb5.mono (Nat.le_of_lt (lt_blk HMd.out))))
          clear hb5
          try go_wp2_with fail
          refine hK.out _ _ HSq5.out (fun _ => ?_)
          clear hK K
          try simp only [Act.put, List.setIfInBounds_toArray, List.set_cons_zero, List.set_cons_succ]
          refine wpAnyH_ready (rs := [0]) (by kernel_rfl) (by simp) ?_
          refine AllReadyH.cons rfl (fun K hK => ?_) AllReadyH.nil
          obtain ⟨l0, l1, l2, _⟩ := HMq5.out.out
          go_simp
          try go_wp2_with fail
          refine hK.out _ _ HSq5.out (fun _ => ?_)
          clear l0 l1 l2
          clear hK K
          try simp only [Act.put, List.setIfInBounds_toArray, List.set_cons_zero, List.set_cons_succ]
          refine wpAnyH_ready (rs := [6]) (by kernel_rfl) (by simp) ?_
          refine AllReadyH.cons rfl (fun K hK => ?_) AllReadyH.nil
          go_simp
          refine (HPL.out wq5).mono ?_
          rintro e wq7 ⟨rfl, hb7⟩
          have HBq7 := hide (HBq5.out.trans (hb7.mono HBq5.out.size))
          have HMq7 := hide (HMq5.out.below hb7 (lt_blk HMq5.out))
          have HSq7 := hide (Below.trans HSq5.out (hb7.mono (Nat.le_of_lt (lt_blk HMq5.out))))
          clear hb7
          try go_wp2_with fail
          refine hK.out _ _ HSq7.out (fun _ => ?_)
          clear hK K
          try simp only [Act.put, List.setIfInBounds_toArray, List.set_cons_zero, List.set_cons_succ]
          refine wpAnyH_ready (rs := [7]) (by kernel_rfl) (by simp) ?_
          refine AllReadyH.cons rfl (fun K hK => ?_) AllReadyH.nil
          obtain ⟨l0, l1, l2, m0, m1, m2⟩ := HMq7.out.out
          have HMq8 : Hid (At3 87 (((World.setCell wq7 ⟨g, 0, none⟩ (.int .i64 (p + f1))).setCell ⟨g, 1, none⟩ (.int .i64 (q + f2))).setCell ⟨g, 2, none⟩ (.int .i64 (t + kx))) g (.int .i64 (p + f1)) (.int .i64 (q + f2)) (.int .i64 (t + kx))) := HMq7.out.all
          have HWq8 : Hid (Wr g (g + 1) wq7 (((World.setCell wq7 ⟨g, 0, none⟩ (.int .i64 (p + f1))).setCell ⟨g, 1, none⟩ (.int .i64 (q + f2))).setCell ⟨g, 2, none⟩ (.int .i64 (t + kx)))) := wr_set3
          have HSq8 := hide (Wr.below HSq7.out HWq8.out (Nat.le_refl _) (Nat.le_of_lt (lt_blk HMq7.out)))
          go_simp
          try go_wp2_with fail
          refine hK.out _ _ HSq8.out (fun _ => ?_)
          clear l0 l1 l2 m0 m1 m2
          clear hK K
          try simp only [Act.put, List.setIfInBounds_toArray, List.set_cons_zero, List.set_cons_succ]
          refine wpAnyH_done (by kernel_rfl) ?_ _
          go_wp2_with fail
          go_meet
          case rel => exact ⟨HMq8, Wr.trans (Wr.of_below HBq7.out) HWq8.out⟩
        --]
      case rest => as_aux_lemma =>
        obtain ⟨w3, rfl⟩ : ∃ w3 : World, w3 = wc := ⟨_, rfl⟩
        obtain ⟨HM3, HW3⟩ := hcut
        have HB3 := hide (Wr.below (show Below g w2 W1 by rw [HW1.out]; exact HBr.out) HW3.out (Nat.le_refl _) (Nat.le_of_lt (lt_blk HM1.out)))
        go_wp2_with fail
        go_roundw
        case rel => exact ⟨k + 1, z, p + f1, q + f2, t + kx, by omega, by go_num, rfl, by omega, by omega, by omega, by omega, HLN, HSN, HM3, HB3⟩
        case measure => simp [intOf]; omega
    · have hkq : k = q' := by omega
      have hal := HAL.out wr HBr.out
      have hsm := HSU.out
      rw [List.take_of_length_le (by rw [hal.2.2.len]; omega)] at hsm
      have hft := HFIT.out
      rw [hsm] at hft
      have FT := hide (fits_calls p q t rp rb rk wr)
      rw [hft] at FT
      obtain ⟨l0, l1, l2, _⟩ := HMr.out.out
      obtain ⟨a0, a1, a2, _⟩ := hal.2.1.out
      have HB4 := hide (HB2.out.trans (HBr.out.mono (Nat.le_of_lt hgw)))
      clear hal hsm hft
      go_wp2_with fail
      refine FT.out.mono ?_
      rintro e w5 ⟨rfl, hb5⟩
      have HB5 := hide (HB4.out.trans (hb5.mono HB4.out.size))
      clear hb5 FT l0 l1 l2 a0 a1 a2
      go_wp2
      go_ret
      exact ⟨rfl, HB5.out⟩

end Go.Proofs.YtcclfmapbgdpdaaGreatDoor

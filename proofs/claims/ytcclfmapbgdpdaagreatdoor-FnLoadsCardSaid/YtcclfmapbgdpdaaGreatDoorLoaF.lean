/- FirstRides of the program, where all groups fit alone. Printed by gen_loaf.py. -/
import Derived.Test.YtcclfmapbgdpdaaGreatDoorLoaV
import Derived.Test.YtcclfmapbgdpdaaGreatDoorLoaH
import Derived.Test.YtcclfmapbgdpdaaGreatDoorMg
import Derived.Deep.DeepCutAuto
namespace Go.Proofs.YtcclfmapbgdpdaaGreatDoor
open Go.RowKit
set_option linter.unusedVariables false

set_option maxHeartbeats 8000000 in
set_option maxRecDepth 100000 in
theorem firstRides_calls (A : Option Addr) (n c : Nat) (xs : List GrpZ) (rp rb rk : Int) (w : World) (h : RdK kGrp w A n xs) (hv : grpsB xs = true) (hr : roomB ⟨rp, rb, rk⟩ = true) (hf : AllFit xs ⟨rp, rb, rk⟩) :
    Calls Tryz.prog 55 #[.slice A n c, .agg #[.int .i64 rp, .int .i64 rb, .int .i64 rk]] w fun e w' => ∃ A' n' c', e = .returned (.tuple #[.slice A' n' c', .int .i64 0]) ∧ RdI w' A' n' (frS (xs.map needZ) ⟨rp, rb, rk⟩ n).1 ∧ Below w.heap.size w w' := by
  have hn : n ≤ 12 := by have := grps_len hv; rw [h.2.1] at this; exact this
  obtain ⟨_, hr1, hr2, hr3⟩ := room_ok hr
  simp only at hr1 hr2 hr3
  obtain ⟨w0, hw0⟩ : ∃ w0, w0 = w.alloc (.cells #[.int .i64 rp, .int .i64 rb, .int .i64 rk] 87) := ⟨_, rfl⟩
  have hb0 : Below w.heap.size w w0 := by rw [hw0]; exact (Below.refl _ _).alloc (Nat.le_refl _) _
  have hz0 : w.heap.size < w0.heap.size := by rw [hw0]; simp
  have HA0 : Hid (At3 87 w0 w.heap.size (.int .i64 rp) (.int .i64 rb) (.int .i64 rk)) := by rw [hw0]; exact At3.new _ _ _ _ _
  have HX0 := hide (h.below hb0 (Nat.le_refl _))
  have G := hide (grouped_calls A n c xs ⟨rp, rb, rk⟩ w0 HX0.out hv hr)
  have TL := hide (fun W (hW : RdK kGrp W A n xs) => tooLarge_calls A n c xs ⟨rp, rb, rk⟩ W hW hv hf)
  have HV := hide (And.intro hv hf)
  have HB0 := hide hb0
  obtain ⟨a0, a1, a2, _⟩ := HA0.out.out
  clear h hv hr hf hb0
  go_enter Tryz.func55, Tryz.ntmps55
  go_wp2_with fail
  rw [← hw0]
  clear hw0
  (try go_wp2_with fail)
  refine G.out.mono ?_
  rintro e w1 ⟨rfl, hb1⟩
  have HA1 := hide (HA0.out.below hb1 hz0)
  have HX1 := hide (HX0.out.below hb1 (Nat.le_refl _))
  have HB1 := hide (HB0.out.trans (hb1.mono HB0.out.size))
  have hz1 := hb1.size
  clear a0 a1 a2
  obtain ⟨a0, a1, a2, _⟩ := HA1.out.out
  clear hb1 G HA0 HX0 HB0
  go_wp2_with fail
  refine (TL.out w1 HX1.out).mono ?_
  rintro e w2 ⟨rfl, hb2⟩
  have HA2 := hide (HA1.out.below hb2 (by omega))
  have HX2 := hide (HX1.out.below hb2 (Nat.le_refl _))
  have HB2 := hide (HB1.out.trans (hb2.mono HB1.out.size))
  have hz2 := hb2.size
  clear a0 a1 a2 hb2 TL HA1 HX1 HB1
  obtain ⟨w3, hw3⟩ : ∃ w3, w3 = w2.alloc (.cells #[.int .i64 0, .int .i64 0, .int .i64 0] 87) := ⟨_, rfl⟩
  have hb3 : Below w2.heap.size w2 w3 := by rw [hw3]; exact (Below.refl _ _).alloc (Nat.le_refl _) _
  have hz3 : w3.heap.size = w2.heap.size + 1 := by rw [hw3]; simp
  have HS3 : Hid (At3 87 w3 w2.heap.size (.int .i64 0) (.int .i64 0) (.int .i64 0)) := by rw [hw3]; exact At3.new _ _ _ _ _
  have HB3 := hide (HB2.out.trans (hb3.mono HB2.out.size))
  have hrow := World.ownsRow_nil w3 (w2.heap.size + 1) 2 1
  have HROW := hide hrow
  have hbz := hb3
  clear hb3 HB2 hrow
  go_wp2_with fail
  rw [← hw3]
  clear hw3
  obtain ⟨g, hg⟩ : ∃ g, g = w2.heap.size := ⟨_, rfl⟩
  rw [← hg] at HS3 HROW hz3 ⊢
  have hgw : w.heap.size < g := by omega
  have HB23 : Hid (Below g w2 w3) := by rw [hg]; exact hbz
  have hg2 : w2.heap.size ≤ g := by omega
  clear hbz hg
  have HAL : Hid (∀ W, Below g w3 W → RdK kGrp W A n xs ∧ At3 87 W w.heap.size (.int .i64 rp) (.int .i64 rb) (.int .i64 rk)) := fun W hW => ⟨HX2.out.below (HB23.out.trans hW) hg2, HA2.out.below (HB23.out.trans hW) hgw⟩
  clear HX2 HA2 HB23
  go_loopw [7, 8, 11, 12, 27] (fun v rd _ _ i wr => ∃ (k R : Nat) (L : List Int) (p q t : Int), k ≤ n ∧ i = .int .i64 k ∧ rd = .int .i64 R ∧ R ≤ k ∧ (0 ≤ p ∧ p ≤ 200) ∧ (0 ≤ q ∧ q ≤ 40) ∧ (0 ≤ t ∧ t ≤ 100000) ∧ Hid (frS (xs.map needZ) ⟨rp, rb, rk⟩ k = (L, R, ⟨p, q, t⟩)) ∧ Hid (wr.ownsRow (g + 1) 2 1 v k (cI L)) ∧ Hid (At3 87 wr g (.int .i64 p) (.int .i64 q) (.int .i64 t)) ∧ Hid (Below g w3 wr)) (fun _ _ _ _ i _ => n - (intOf i).toNat)
  case atStart => exact ⟨0, 0, [], 0, 0, 0, Nat.zero_le _, rfl, rfl, Nat.le_refl _, by omega, by omega, by omega, rfl, HROW.out, HS3.out, Below.refl _ _⟩
  case round => as_aux_lemma =>
    clear HS3 HROW hz3
    obtain ⟨k, R, L, p, q, t, hk, rfl, rfl, hRk, hp, hq, ht, HFR, HOW, HON, HBr⟩ := hrel
    have hgr := lt_blk HON.out
    by_cases hlt : k < n
    · obtain ⟨b, off, f0, f1, f2, f3, hA, hbl, hx, c0, c1, c2, c3, hs0, hss⟩ := (HAL.out wr HBr.out).1.atGrp hlt
      obtain ⟨_, _, _, hg1, hg2, hg3⟩ := grp_ok (grps_mem HV.out.1 _ (List.mem_of_getElem? hx.out))
      have hfx := HV.out.2 _ (List.mem_of_getElem? hx.out)
      have hfx2 := fits_iff.1 (show fitsZ ⟨f1, f2, 75 * f1 + 15 * f2 + f3⟩ ⟨rp, rb, rk⟩ = true from hfx)
      simp only at hfx2
      have HND := hide (need_getD hx.out)
      obtain ⟨W1, hW1⟩ : ∃ W1, W1 = wr.alloc (.cells #[.string f0, .int .i64 f1, .int .i64 f2, .int .i64 f3] 98) := ⟨_, rfl⟩
      have hbW : Below wr.heap.size wr W1 := by rw [hW1]; exact (Below.refl _ _).alloc (Nat.le_refl _) _
      have hzW : wr.heap.size < W1.heap.size := by rw [hW1]; simp
      have HON1 := hide (HON.out.below hbW hgr)
      have HCL : Hid (∀ W, Below W1.heap.size W1 W → W.cell? ⟨g, 0, none⟩ = some (.int .i64 p) ∧ W.cell? ⟨g, 1, none⟩ = some (.int .i64 q) ∧ W.cell? ⟨g, 2, none⟩ = some (.int .i64 t) ∧ W.cell? ⟨wr.heap.size, 0, none⟩ = some (.string f0) ∧ W.cell? ⟨wr.heap.size, 1, none⟩ = some (.int .i64 f1) ∧ W.cell? ⟨wr.heap.size, 2, none⟩ = some (.int .i64 f2) ∧ W.cell? ⟨wr.heap.size, 3, none⟩ = some (.int .i64 f3)) := fun W hW => by
        obtain ⟨z0, z1, z2, _⟩ := (HON1.out.below hW (lt_blk HON1.out)).out
        exact ⟨z0, z1, z2, (hW.cell (p := ⟨wr.heap.size, 0, none⟩) hzW).trans (by rw [hW1]; simp), (hW.cell (p := ⟨wr.heap.size, 1, none⟩) hzW).trans (by rw [hW1]; simp), (hW.cell (p := ⟨wr.heap.size, 2, none⟩) hzW).trans (by rw [hW1]; simp), (hW.cell (p := ⟨wr.heap.size, 3, none⟩) hzW).trans (by rw [hW1]; simp)⟩
      have HN : Hid (∀ W, Calls Tryz.prog 135 #[.agg #[.string f0, .int .i64 f1, .int .i64 f2, .int .i64 f3]] W fun e w' => e = .returned (.agg #[.int .i64 f1, .int .i64 f2, .int .i64 (75 * f1 + 15 * f2 + f3)]) ∧ Below W.heap.size W w') := fun W => need_calls f0 f1 f2 f3 W ⟨by omega, hg1.2⟩ hg2 hg3
      have HP : Hid (∀ W, Calls Tryz.prog 134 #[.agg #[.int .i64 p, .int .i64 q, .int .i64 t], .agg #[.int .i64 f1, .int .i64 f2, .int .i64 (75 * f1 + 15 * f2 + f3)]] W fun e w' => e = .returned (.agg #[.int .i64 (p + f1), .int .i64 (q + f2), .int .i64 (t + (75 * f1 + 15 * f2 + f3))]) ∧ Below W.heap.size W w') := fun W => plus_calls p q t f1 f2 (75 * f1 + 15 * f2 + f3) W (by unfold SmR; simp only; omega) (by unfold SmR; simp only; omega)
      have HBW := hide hbW
      subst hA
      clear hx hfx hbW
      go_upto_region 11 with fail
      rw [← hW1]
      clear hW1 c0 c1 c2 c3
      go_cut [12] (fun v wx => ∃ b', v = .pointer (some ⟨b', 0, none⟩) ∧ Hid (At3 87 wx b' (.int .i64 (p + f1)) (.int .i64 (q + f2)) (.int .i64 (t + (75 * f1 + 15 * f2 + f3)))) ∧ Hid (Below W1.heap.size W1 wx) ∧ W1.heap.size ≤ b')
      case first => as_aux_lemma =>
        --[
          have hS0 : Below W1.heap.size W1 W1.drew := (Below.refl _ _).drew
          have HS0 := hide hS0
          clear hS0
          refine wp_region_held_drew (S := fun W => Below W1.heap.size W1 W) (by kernel_rfl) HS0.out (fun _ => ?_)
          refine takeH 0 31 (.agg #[.int .i64 p, .int .i64 q, .int .i64 t]) ⟨_, rfl, rfl, rfl, ?_⟩ (by kernel_rfl) (by kernel_rfl) (by kernel_rfl) (fun _ _ _ h => h) HS0.out ?_
          · intro w hSw; obtain ⟨z0, z1, z2, y0, y1, y2, y3⟩ := HCL.out w hSw; go_simp
          try simp only [Act.put, List.setIfInBounds_toArray, List.set_cons_zero, List.set_cons_succ]
          refine takeH 1 32 (.agg #[.string f0, .int .i64 f1, .int .i64 f2, .int .i64 f3]) ⟨_, rfl, rfl, rfl, ?_⟩ (by kernel_rfl) (by kernel_rfl) (by kernel_rfl) (fun _ _ _ h => h) HS0.out ?_
          · intro w hSw; obtain ⟨z0, z1, z2, y0, y1, y2, y3⟩ := HCL.out w hSw; go_simp
          try simp only [Act.put, List.setIfInBounds_toArray, List.set_cons_zero, List.set_cons_succ]
          refine wpAnyH_ready (rs := [2, 4]) (by kernel_rfl) (by simp) ?_
          refine AllReadyH.cons rfl (fun K hK => ?_) (AllReadyH.cons rfl (fun K hK => ?_) AllReadyH.nil)
          · go_simp
            refine (HN.out W1.drew).mono ?_
            rintro e wq1 ⟨rfl, hbq1⟩
            have HSq1 := hide (HS0.out.trans (hbq1.mono HS0.out.size))
            clear hbq1
            try go_wp2_with fail
            refine hK.out _ _ HSq1.out (fun _ => ?_)
            clear hK K
            try simp only [Act.put, List.setIfInBounds_toArray, List.set_cons_zero, List.set_cons_succ]
            refine wpAnyH_ready (rs := [3, 4]) (by kernel_rfl) (by simp) ?_
            refine AllReadyH.cons rfl (fun K hK => ?_) (AllReadyH.cons rfl (fun K hK => ?_) AllReadyH.nil)
            · go_simp
              refine (HP.out wq1).mono ?_
              rintro e wq2 ⟨rfl, hbq2⟩
              have HSq2 := hide (HSq1.out.trans (hbq2.mono HSq1.out.size))
              clear hbq2
              try go_wp2_with fail
              refine hK.out _ _ HSq2.out (fun _ => ?_)
              clear hK K
              try simp only [Act.put, List.setIfInBounds_toArray, List.set_cons_zero, List.set_cons_succ]
              refine wpAnyH_ready (rs := [4]) (by kernel_rfl) (by simp) ?_
              refine AllReadyH.cons rfl (fun K hK => ?_) AllReadyH.nil
              obtain ⟨wq3, hwq3⟩ : ∃ W, W = World.alloc wq2 (.cells #[.int .i64 0, .int .i64 0, .int .i64 0] 87) := ⟨_, rfl⟩
              have hbq3 : Below (World.heap wq2).size wq2 wq3 := by rw [hwq3]; exact ((Below.refl _ _).alloc (Nat.le_refl _) _)
              have HNq3 : Hid (At3 87 wq3 (World.heap wq2).size (.int .i64 0) (.int .i64 0) (.int .i64 0)) := by rw [hwq3]; exact At3.new _ _ _ _ _
              have HSq3 := hide (HSq2.out.trans (hbq3.mono HSq2.out.size))
              go_simp
              try go_wp2_with fail
              rw [← hwq3]
              have hgq3 : W1.heap.size ≤ (World.heap wq2).size := HSq2.out.size
              clear hbq3 hwq3
              refine hK.out _ _ HSq3.out (fun _ => ?_)
              clear hK K
              try simp only [Act.put, List.setIfInBounds_toArray, List.set_cons_zero, List.set_cons_succ]
              refine wpAnyH_ready (rs := [5]) (by kernel_rfl) (by simp) ?_
              refine AllReadyH.cons rfl (fun K hK => ?_) AllReadyH.nil
              obtain ⟨l0, l1, l2, m0, m1, m2⟩ := HNq3.out.out
              have HNq4 : Hid (At3 87 (((World.setCell wq3 ⟨(World.heap wq2).size, 0, none⟩ (.int .i64 (p + f1))).setCell ⟨(World.heap wq2).size, 1, none⟩ (.int .i64 (q + f2))).setCell ⟨(World.heap wq2).size, 2, none⟩ (.int .i64 (t + (75 * f1 + 15 * f2 + f3)))) (World.heap wq2).size (.int .i64 (p + f1)) (.int .i64 (q + f2)) (.int .i64 (t + (75 * f1 + 15 * f2 + f3)))) := (HNq3.out.set0.set1).set2
              have HSq4 := hide (below_set3 (u0 := .int .i64 (p + f1)) (u1 := .int .i64 (q + f2)) (u2 := .int .i64 (t + (75 * f1 + 15 * f2 + f3))) HSq3.out (C := (World.heap wq2).size) hgq3)
              go_simp
              try go_wp2_with fail
              refine hK.out _ _ HSq4.out (fun _ => ?_)
              clear l0 l1 l2 m0 m1 m2
              clear hK K
              try simp only [Act.put, List.setIfInBounds_toArray, List.set_cons_zero, List.set_cons_succ]
              refine wpAnyH_done (by kernel_rfl) ?_ _
              go_wp2_with fail
              go_meet
              case rel => exact ⟨(World.heap wq2).size, rfl, HNq4, HSq4.out, by omega⟩
            · obtain ⟨wq5, hwq5⟩ : ∃ W, W = World.alloc wq1 (.cells #[.int .i64 0, .int .i64 0, .int .i64 0] 87) := ⟨_, rfl⟩
              have hbq5 : Below (World.heap wq1).size wq1 wq5 := by rw [hwq5]; exact ((Below.refl _ _).alloc (Nat.le_refl _) _)
              have HNq5 : Hid (At3 87 wq5 (World.heap wq1).size (.int .i64 0) (.int .i64 0) (.int .i64 0)) := by rw [hwq5]; exact At3.new _ _ _ _ _
              have HSq5 := hide (HSq1.out.trans (hbq5.mono HSq1.out.size))
              go_simp
              try go_wp2_with fail
              rw [← hwq5]
              have hgq5 : W1.heap.size ≤ (World.heap wq1).size := HSq1.out.size
              clear hbq5 hwq5
              refine hK.out _ _ HSq5.out (fun _ => ?_)
              clear hK K
              try simp only [Act.put, List.setIfInBounds_toArray, List.set_cons_zero, List.set_cons_succ]
              refine wpAnyH_ready (rs := [3]) (by kernel_rfl) (by simp) ?_
              refine AllReadyH.cons rfl (fun K hK => ?_) AllReadyH.nil
              go_simp
              refine (HP.out wq5).mono ?_
              rintro e wq6 ⟨rfl, hbq6⟩
              have HSq6 := hide (HSq5.out.trans (hbq6.mono HSq5.out.size))
              have HNq6 := hide (HNq5.out.below hbq6 (lt_blk HNq5.out))
              clear hbq6
              try go_wp2_with fail
              refine hK.out _ _ HSq6.out (fun _ => ?_)
              clear hK K
              try simp only [Act.put, List.setIfInBounds_toArray, List.set_cons_zero, List.set_cons_succ]
              refine wpAnyH_ready (rs := [5]) (by kernel_rfl) (by simp) ?_
              refine AllReadyH.cons rfl (fun K hK => ?_) AllReadyH.nil
              obtain ⟨l0, l1, l2, m0, m1, m2⟩ := HNq6.out.out
              have HNq7 : Hid (At3 87 (((World.setCell wq6 ⟨(World.heap wq1).size, 0, none⟩ (.int .i64 (p + f1))).setCell ⟨(World.heap wq1).size, 1, none⟩ (.int .i64 (q + f2))).setCell ⟨(World.heap wq1).size, 2, none⟩ (.int .i64 (t + (75 * f1 + 15 * f2 + f3)))) (World.heap wq1).size (.int .i64 (p + f1)) (.int .i64 (q + f2)) (.int .i64 (t + (75 * f1 + 15 * f2 + f3)))) := (HNq6.out.set0.set1).set2
              have HSq7 := hide (below_set3 (u0 := .int .i64 (p + f1)) (u1 := .int .i64 (q + f2)) (u2 := .int .i64 (t + (75 * f1 + 15 * f2 + f3))) HSq6.out (C := (World.heap wq1).size) hgq5)
              go_simp
              try go_wp2_with fail
              refine hK.out _ _ HSq7.out (fun _ => ?_)
              clear l0 l1 l2 m0 m1 m2
              clear hK K
              try simp only [Act.put, List.setIfInBounds_toArray, List.set_cons_zero, List.set_cons_succ]
              refine wpAnyH_done (by kernel_rfl) ?_ _
              go_wp2_with fail
              go_meet
              case rel => exact ⟨(World.heap wq1).size, rfl, HNq7, HSq7.out, by omega⟩
          · obtain ⟨wq8, hwq8⟩ : ∃ W, W = (World.alloc W1 (.cells #[.int .i64 0, .int .i64 0, .int .i64 0] 87)).drew := ⟨_, rfl⟩
            have hbq8 : Below (World.heap W1).size W1 wq8 := by rw [hwq8]; exact ((Below.refl _ _).alloc (Nat.le_refl _) _).drew
            have HNq8 : Hid (At3 87 wq8 (World.heap W1).size (.int .i64 0) (.int .i64 0) (.int .i64 0)) := by rw [hwq8]; exact At3.new _ _ _ _ _
            have HSq8 := hide (show Below W1.heap.size W1 wq8 from hbq8.mono (Nat.le_refl _))
            go_simp
            try go_wp2_with fail
            rw [← hwq8]
            have hgq8 : W1.heap.size ≤ (World.heap W1).size := (Nat.le_refl _)
            clear hbq8 hwq8
            refine hK.out _ _ HSq8.out (fun _ => ?_)
            clear hK K
            try simp only [Act.put, List.setIfInBounds_toArray, List.set_cons_zero, List.set_cons_succ]
            refine wpAnyH_ready (rs := [2]) (by kernel_rfl) (by simp) ?_
            refine AllReadyH.cons rfl (fun K hK => ?_) AllReadyH.nil
            go_simp
            refine (HN.out wq8).mono ?_
            rintro e wq9 ⟨rfl, hbq9⟩
            have HSq9 := hide (HSq8.out.trans (hbq9.mono HSq8.out.size))
            have HNq9 := hide (HNq8.out.below hbq9 (lt_blk HNq8.out))
            clear hbq9
            try go_wp2_with fail
            refine hK.out _ _ HSq9.out (fun _ => ?_)
            clear hK K
            try simp only [Act.put, List.setIfInBounds_toArray, List.set_cons_zero, List.set_cons_succ]
            refine wpAnyH_ready (rs := [3]) (by kernel_rfl) (by simp) ?_
            refine AllReadyH.cons rfl (fun K hK => ?_) AllReadyH.nil
            go_simp
            refine (HP.out wq9).mono ?_
            rintro e wq10 ⟨rfl, hbq10⟩
            have HSq10 := hide (HSq9.out.trans (hbq10.mono HSq9.out.size))
            have HNq10 := hide (HNq9.out.below hbq10 (lt_blk HNq9.out))
            clear hbq10
            try go_wp2_with fail
            refine hK.out _ _ HSq10.out (fun _ => ?_)
            clear hK K
            try simp only [Act.put, List.setIfInBounds_toArray, List.set_cons_zero, List.set_cons_succ]
            refine wpAnyH_ready (rs := [5]) (by kernel_rfl) (by simp) ?_
            refine AllReadyH.cons rfl (fun K hK => ?_) AllReadyH.nil
            obtain ⟨l0, l1, l2, m0, m1, m2⟩ := HNq10.out.out
            have HNq11 : Hid (At3 87 (((World.setCell wq10 ⟨(World.heap W1).size, 0, none⟩ (.int .i64 (p + f1))).setCell ⟨(World.heap W1).size, 1, none⟩ (.int .i64 (q + f2))).setCell ⟨(World.heap W1).size, 2, none⟩ (.int .i64 (t + (75 * f1 + 15 * f2 + f3)))) (World.heap W1).size (.int .i64 (p + f1)) (.int .i64 (q + f2)) (.int .i64 (t + (75 * f1 + 15 * f2 + f3)))) := (HNq10.out.set0.set1).set2
            have HSq11 := hide (below_set3 (u0 := .int .i64 (p + f1)) (u1 := .int .i64 (q + f2)) (u2 := .int .i64 (t + (75 * f1 + 15 * f2 + f3))) HSq10.out (C := (World.heap W1).size) hgq8)
            go_simp
            try go_wp2_with fail
            refine hK.out _ _ HSq11.out (fun _ => ?_)
            clear l0 l1 l2 m0 m1 m2
            clear hK K
            try simp only [Act.put, List.setIfInBounds_toArray, List.set_cons_zero, List.set_cons_succ]
            refine wpAnyH_done (by kernel_rfl) ?_ _
            go_wp2_with fail
            go_meet
            case rel => exact ⟨(World.heap W1).size, rfl, HNq11, HSq11.out, by omega⟩
        --]
      case rest => as_aux_lemma =>
        obtain ⟨b', hv12, HNX, HBX, hbb⟩ := hcut
        subst hv12
        have hwx := HBW.out.trans (HBX.out.mono HBW.out.size)
        have hgx := HBr.out.trans (hwx.mono (Nat.le_of_lt hgr))
        obtain ⟨z0, z1, z2, _⟩ := HNX.out.out
        obtain ⟨y0, y1, y2, _⟩ := (HAL.out wc hgx).2.out
        have HFT := hide (fits_calls (p + f1) (q + f2) (t + (75 * f1 + 15 * f2 + f3)) rp rb rk wc)
        have HFY := hide (fun h => frS_yes (r := ⟨rp, rb, rk⟩) HFR.out HND.out h)
        have HFN := hide (fun h => frS_no (r := ⟨rp, rb, rk⟩) HFR.out HND.out h)
        have hfi := fits_iff (n := ⟨p + f1, q + f2, t + (75 * f1 + 15 * f2 + f3)⟩) (r := ⟨rp, rb, rk⟩)
        simp only [plusZ] at HFY HFN
        simp only at hfi
        obtain ⟨ft, hft⟩ : ∃ ft, ft = fitsZ ⟨p + f1, q + f2, t + (75 * f1 + 15 * f2 + f3)⟩ ⟨rp, rb, rk⟩ := ⟨_, rfl⟩
        rw [← hft] at HFT HFY HFN hfi
        have HWX := hide hwx
        clear hft hwx hgx
        go_wp2_with fail
        refine HFT.out.mono ?_
        rintro e w4 ⟨rfl, hb4⟩
        have HNX4 := hide (HNX.out.below hb4 (lt_blk HNX.out))
        have HB4 := hide (HWX.out.trans (hb4.mono HWX.out.size))
        have HBX4 := hide (HBX.out.trans (hb4.mono HBX.out.size))
        clear z0 z1 z2 y0 y1 y2 hb4 HFT HNX HWX HBX
        go_upto_if 38 with fail
        go_cut [8] (fun v wx => ∃ (R' : Nat) (p' q' t' : Int), v = .int .i64 R' ∧ R' ≤ k + 1 ∧ (0 ≤ p' ∧ p' ≤ 200) ∧ (0 ≤ q' ∧ q' ≤ 40) ∧ (0 ≤ t' ∧ t' ≤ 100000) ∧ Hid (frS (xs.map needZ) ⟨rp, rb, rk⟩ (k + 1) = (L ++ [(R' : Int)], R', ⟨p', q', t'⟩)) ∧ Hid (At3 87 wx b' (.int .i64 p') (.int .i64 q') (.int .i64 t')) ∧ Hid (Below wr.heap.size wr wx))
        case first => as_aux_lemma =>
          cases ft
          · have HE := hide (HFN.out rfl)
            obtain ⟨_, _, _, x0, x1, x2, x3⟩ := HCL.out w4 HBX4.out
            clear hfi HFY HFN
            go_wp2_with fail
            refine (HN.out w4).mono ?_
            rintro e w5 ⟨rfl, hb5⟩
            have hn5 := HNX4.out.below hb5 (lt_blk HNX4.out)
            obtain ⟨l0, l1, l2, m0, m1, m2⟩ := hn5.out
            have HN5 := hide (hn5.all (u0 := .int .i64 f1) (u1 := .int .i64 f2) (u2 := .int .i64 (75 * f1 + 15 * f2 + f3)))
            have HB5 := hide (below_set3 (u0 := .int .i64 f1) (u1 := .int .i64 f2) (u2 := .int .i64 (75 * f1 + 15 * f2 + f3)) (HB4.out.trans (hb5.mono HB4.out.size)) (C := b') (by omega))
            clear x0 x1 x2 x3 hb5 hn5
            go_wp2_with fail
            go_meet
            case rel => exact ⟨R + 1, f1, f2, 75 * f1 + 15 * f2 + f3, by go_num, by omega, by omega, by omega, by omega, HE, HN5, HB5⟩
          · have HE := hide (HFY.out rfl)
            obtain ⟨hf1, hf2, hf3⟩ := hfi.1 rfl
            clear hfi HFY HFN
            go_wp2_with fail
            go_meet
            case rel => exact ⟨R, p + f1, q + f2, t + (75 * f1 + 15 * f2 + f3), rfl, by omega, by omega, by omega, by omega, HE, HNX4, HB4⟩
        case rest => as_aux_lemma =>
          obtain ⟨w6, rfl⟩ : ∃ w6 : World, w6 = wc := ⟨_, rfl⟩
          obtain ⟨R', p', q', t', hv8, hR', hp', hq', ht', HE, HNX6, HB6⟩ := hcut
          subst hv8
          obtain ⟨z0, z1, z2, _⟩ := HNX6.out.out
          have hon6 := HON.out.below HB6.out hgr
          obtain ⟨l0, l1, l2, m0, m1, m2⟩ := hon6.out
          obtain ⟨w7, hw7⟩ : ∃ w7, w7 = ((w6.setCell ⟨g, 0, none⟩ (.int .i64 p')).setCell ⟨g, 1, none⟩ (.int .i64 q')).setCell ⟨g, 2, none⟩ (.int .i64 t') := ⟨_, rfl⟩
          have HON7 : Hid (At3 87 w7 g (.int .i64 p') (.int .i64 q') (.int .i64 t')) := by rw [hw7]; exact hon6.all
          have hwr7 : Wr g (g + 1) w6 w7 := by rw [hw7]; exact wr_set3
          have HOW7 := hide (own_wrv (own_below HOW.out HB6.out (Nat.le_refl _)) hwr7 (Nat.le_refl _))
          have HB7 := hide (Wr.below (HBr.out.trans (HB6.out.mono (Nat.le_of_lt hgr))) hwr7 (Nat.le_refl _) (by have := HB6.out.size; omega))
          have hz7 : g < w7.heap.size := lt_blk HON7.out
          clear hwr7 hon6
          go_upto_region 16 with fail
          rw [← hw7]
          clear hw7 z0 z1 z2 l0 l1 l2 m0 m1 m2
          go_wp2_with (at_builtin; refine appI rfl _ _ rfl (g + 1) u7 k L R' rfl HOW7.out rfl (by omega) (by omega) ?_; intro v8 w8 hown8 hb8 hz8)
          go_roundw
          case rel => exact ⟨k + 1, R', L ++ [(R' : Int)], p', q', t', by omega, by go_num, rfl, hR', hp', hq', ht', HE, hown8, HON7.out.below hb8 (Nat.lt_succ_self _), HB7.out.trans (hb8.mono (Nat.le_succ _))⟩
          case measure => simp [intOf]; omega
    · have hkn : k = n := by omega
      subst hkn
      have hfr := HFR.out
      have hbd := frS_bd (nd := xs.map needZ) (r := ⟨rp, rb, rk⟩) k
      rw [hfr] at hbd
      obtain ⟨A9, c9, hv9⟩ := own_slice HOW.out
      subst hv9
      have HR9 := hide (RdI.of_own HOW.out (fun x hx => by have := hbd x hx; unfold I64; omega))
      have HE9 := hide hfr
      have HB9 := hide (HB3.out.trans (HBr.out.mono (by omega)))
      clear hfr hbd HFR
      go_wp2
      go_ret2
      exact ⟨A9, k, c9, rfl, by rw [HE9.out]; exact HR9.out, HB9.out⟩

end Go.Proofs.YtcclfmapbgdpdaaGreatDoor

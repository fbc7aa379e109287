/- The law FnLog returns true for all arguments: its walk. -/
import Derived.Test.YtcclfmapbgdpdaaGreatDoorLogW
import Derived.Test.YtcclfmapbgdpdaaGreatDoorMg
import Derived.Test.YtcclfmapbgdpdaaGreatDoorTake
import Derived.IntWalk
import Derived.Test.YtcclfmapbgdpdaaGreatDoorReadL
import Derived.Deep.DeepCutAuto
import Derived.Deep.AppendLies
import Derived.Deep.RegionHeld3
namespace Go.Proofs.YtcclfmapbgdpdaaGreatDoor
open Go.RowKit
set_option linter.unusedVariables false

theorem mid_of_short {xs : List LineZ} (h : ShortL xs) : MidL xs := fun x hx => Nat.le_trans (h x hx) (by omega)

theorem cK_set3 {ys : List LineZ} {k : Nat} {x : LineZ} (h : ys[k]? = some x) (c : Int) : (cK kLine ys).set (k * 4 + 3) (.int .i64 c) = cK kLine (ys.set k ⟨x.day, x.minute, x.text, c⟩) := by
  obtain ⟨hk, he⟩ := List.getElem?_eq_some_iff.1 h
  have hl : (cK kLine (ys.take k)).length = k * 4 := by rw [cK_len, List.length_take, Nat.min_eq_left (Nat.le_of_lt hk)]; rfl
  have e1 : ys.drop k = x :: ys.drop (k + 1) := by rw [← List.getElem_cons_drop (h := hk), he]
  have e2 : ys.set k ⟨x.day, x.minute, x.text, c⟩ = ys.take k ++ (⟨x.day, x.minute, x.text, c⟩ : LineZ) :: ys.drop (k + 1) := by rw [List.set_eq_take_append_cons_drop, if_pos hk]
  rw [e2]
  conv => lhs; rw [← List.take_append_drop k ys, e1]
  rw [cK_append, cK_append, List.set_append_right _ _ (by omega), hl, show k * 4 + 3 - k * 4 = 3 by omega]
  rfl
/-- A seal made another. -/
theorem crc_other {s : Int} {x : Nat} (h : crcB s = true) (hx : x < 60000) : crcB ((s + 1 + (x : Int)) % 65536) = true ∧ (s + 1 + (x : Int)) % 65536 ≠ s := by
  have := withinB_iff.1 (show withinB s 0 65535 = true from h)
  exact ⟨withinB_iff.2 ⟨by omega, by omega⟩, by omega⟩

set_option maxHeartbeats 8000000 in
set_option maxRecDepth 1000000 in
theorem law_Log (A0 : Option Addr) (n0 c0 : Nat) (bs0 : List Int) (A1 : Option Addr) (n1 c1 : Nat) (bs1 : List Int) (w : World) (ht : TabPME w) (h0 : RdY w A0 n0 bs0) (h1 : RdY w A1 n1 bs1) :
    Calls Tryz.prog 4 #[.slice A0 n0 c0, .slice A1 n1 c1] w fun e w' => e = .returned (.bool true) ∧ Below w.heap.size w w' := by
  have LG := hide (r8Long_calls A0 A1 n0 n1 c0 c1 w)
  have H0 := hide h0
  have H1 := hide h1
  have HT := hide ht.1
  have HE := hide ht.2
  clear h0 h1 ht
  by_cases hn : n0 ≤ 1048576 ∧ n1 ≤ 1048576
  case neg =>
    have e : (!decide (n0 ≤ 1048576) || !decide (n1 ≤ 1048576)) = true := by
      rw [← Bool.not_and, Bool.not_eq_true', Bool.and_eq_false_iff, decide_eq_false_iff_not, decide_eq_false_iff_not]
      omega
    rw [e] at LG
    go_enter Tryz.func4, Tryz.ntmps4
    go_wp2_with fail
    refine LG.out.mono ?_
    rintro e w' ⟨rfl, rfl⟩
    go_wp2
    go_ret
    exact ⟨rfl, Below.refl _ _⟩
  obtain ⟨hn0, hn1⟩ := hn
  rw [decide_eq_true hn0, decide_eq_true hn1] at LG
  have D1 := hide (r8Log_calls n0 c0 A0 bs0 w H0.out hn0)
  go_enter Tryz.func4, Tryz.ntmps4
  go_wp2_with fail
  refine LG.out.mono ?_
  rintro e w' ⟨rfl, rfl⟩
  go_wp2_with fail
  refine D1.out.mono ?_
  rintro e w1 ⟨A2, m, c2, xs, rfl, ⟨r1, v1, l1, hm7, hmc, hdy⟩, hb1⟩
  have HX1 := hide r1
  have HXS := hide (And.intro v1 (And.intro l1 hdy))
  have HB1 := hide hb1
  have P0 := hide (r8At_calls A1 n1 c1 0 50 bs1 w1 (H1.out.below hb1 (Nat.le_refl _)) hn1 (by omega) (by unfold I64; omega))
  have P1 := hide (r8Wide_calls A1 n1 c1 1 1440 bs1 w1 (H1.out.below hb1 (Nat.le_refl _)) hn1 (by omega) (by omega) (by omega))
  clear r1 v1 l1 hdy hb1 D1 LG
  go_wp2_with fail
  refine P0.out.mono ?_
  rintro e w' ⟨p, rfl, hp, _, rfl⟩
  clear P0
  go_wp2_with fail
  refine P1.out.mono ?_
  rintro e w' ⟨q, rfl, hq, rfl⟩
  clear P1
  have hp50 : p < 50 := by omega
  obtain ⟨X, ys, a1, a2, a3, a4, a5, a6, a7, a8, a9, a10, a11, x1, x2, x3, x4, a12, a13, a14, a15, a16⟩ := log_all_law (d := 200 + (p : Int)) (mi := (q : Int)) HXS.out.1 HXS.out.2.1 hm7 HXS.out.2.2 (by omega) (by omega)
  obtain ⟨b1, b2, b3, b4, b5, b6, b7, b8, b9, b10, b11⟩ := log_words a5 a4 a8 (by omega) x3
  have AD := hide (implAddLineC_calls A2 m c2 xs (200 + (p : Int)) (q : Int) rideT w1 (HT.out.here HB1.out) HX1.out (by unfold I64; omega) (by unfold I64; omega) (by decide) (by omega) (by decide) (mid_of_short a7))
  unfold LinPostC at AD
  rw [a1, a2] at AD
  have HV := hide a5
  have HXS := hide (And.intro HXS.out.1 (And.intro a7 HXS.out.2.1))
  have HYS := hide (And.intro a6 (And.intro a4 a8))
  have HPR := hide (And.intro a9 a10)
  have HFB := hide a11
  have HXX := hide (And.intro x1 (And.intro x2 (And.intro x3 x4)))
  have HSE := hide (And.intro a12 (And.intro a13 (And.intro a14 a15)))
  have HLN := hide a16
  have HCW := hide (And.intro b1 (And.intro b2 (And.intro b3 (And.intro b4 (And.intro b5 (And.intro b6 b7))))))
  have HLL := hide (And.intro b8 (And.intro b9 (And.intro b10 b11)))
  have hml := a4
  clear a1 a2 a3 a4 a5 a6 a7 a8 a9 a10 a11 a12 a13 a14 a15 a16 b1 b2 b3 b4 b5 b6 b7 b8 b9 b10 b11 x1 x2 x3 x4 hp
  go_wp2_with fail
  refine AD.out.mono ?_
  rintro e w2 ⟨A3, n2, c3, rfl, f2, N2, hc3, hb2⟩
  obtain rfl : n2 = m + 1 := by rw [← f2.2.1]; exact hml
  obtain ⟨N, hN⟩ : ∃ N, N = m + 1 := ⟨_, rfl⟩
  rw [← hN] at f2 hc3 hml ⊢
  have hNm : (N : Int) = (m : Int) + 1 := by omega
  have hNm2 : m < N := by omega
  have hN8 : N ≤ 8 := by omega
  have HX2 := hide (HX1.out.below hb2 (Nat.le_refl _))
  have HY2 := hide f2.rd
  have HB2 := hide (HB1.out.trans (hb2.mono HB1.out.size))
  have VS := hide (specValidLog_calls A3 N c3 ys w2 HY2.out (by omega) (mid_of_short HYS.out.1))
  have VI := hide (fun W (hT : TabPM W) (hy : RdK kLine W A3 N ys) => implValidLog_calls A3 N c3 ys W hT hy (by omega) (mid_of_short HYS.out.1))
  have PR := hide (fun W (hT : TabPM W) (hx : RdK kLine W A2 m xs) (hy : RdK kLine W A3 N ys) => implIsPrefix_calls A2 m c2 xs A3 N c3 ys W hT hx hy (by omega) (by omega) (mid_of_short HXS.out.2.1) (mid_of_short HYS.out.1) hmc hc3)
  have PS := hide (fun W (hT : TabPM W) (hx : RdK kLine W A2 m xs) (hy : RdK kLine W A3 N ys) => implIsPrefix_calls A3 N c3 ys A2 m c2 xs W hT hy hx (by omega) (by omega) (mid_of_short HYS.out.1) (mid_of_short HXS.out.2.1) hc3 hmc)
  have FB := hide (fun W (hT : TabPM W) (hy : RdK kLine W A3 N ys) => implFirstBroken_calls A3 N c3 ys W hT hy (by omega) (mid_of_short HYS.out.1))
  rw [HV.out] at VS
  simp only [HV.out] at VI
  simp only [HPR.out.1] at PR
  simp only [HPR.out.2] at PS
  simp only [HFB.out] at FB
  clear f2 N2 hb2 AD HX1 HB1 hN HPR HFB
  go_wp2_with fail
  refine VS.out.mono ?_
  rintro e w3 ⟨rfl, hb3⟩
  have HX3 := hide (HX2.out.below hb3 (Nat.le_refl _))
  have HY3 := hide (HY2.out.below hb3 (Nat.le_refl _))
  have HB3 := hide (HB2.out.trans (hb3.mono HB2.out.size))
  clear hb3 VS HX2 HY2 HB2 hNm
  go_wp2_with fail
  refine (VI.out w3 (HT.out.here HB3.out) HY3.out).mono ?_
  rintro e w4 ⟨rfl, hb4⟩
  have HX4 := hide (HX3.out.below hb4 (Nat.le_refl _))
  have HY4 := hide (HY3.out.below hb4 (Nat.le_refl _))
  have HB4 := hide (HB3.out.trans (hb4.mono HB3.out.size))
  clear hb4 VI HX3 HY3 HB3
  go_wp2_with fail
  refine (PR.out w4 (HT.out.here HB4.out) HX4.out HY4.out).mono ?_
  rintro e w5 ⟨rfl, hb5⟩
  have HX5 := hide (HX4.out.below hb5 (Nat.le_refl _))
  have HY5 := hide (HY4.out.below hb5 (Nat.le_refl _))
  have HB5 := hide (HB4.out.trans (hb5.mono HB4.out.size))
  clear hb5 PR HX4 HY4 HB4
  go_wp2_with fail
  refine (PS.out w5 (HT.out.here HB5.out) HX5.out HY5.out).mono ?_
  rintro e w6 ⟨rfl, hb6⟩
  have HX6 := hide (HX5.out.below hb6 (Nat.le_refl _))
  have HY6 := hide (HY5.out.below hb6 (Nat.le_refl _))
  have HB6 := hide (HB5.out.trans (hb6.mono HB5.out.size))
  clear hb6 PS HX5 HY5 HB5
  go_wp2_with fail
  refine (FB.out w6 (HT.out.here HB6.out) HY6.out).mono ?_
  rintro e w7 ⟨rfl, hb7⟩
  have HX7 := hide (HX6.out.below hb7 (Nat.le_refl _))
  have HY7 := hide (HY6.out.below hb7 (Nat.le_refl _))
  have HB7 := hide (HB6.out.trans (hb7.mono HB6.out.size))
  have P3 := hide (r8At_calls A1 n1 c1 3 (N : Int) bs1 w7 (H1.out.below HB7.out (Nat.le_refl _)) hn1 (by omega) (by unfold I64; omega))
  clear hb7 FB HX6 HY6 HB6
  go_wp2_with fail
  refine P3.out.mono ?_
  rintro e w' ⟨k, rfl, hk, _, rfl⟩
  have hkN : k < N := by omega
  clear P3 hk
  obtain ⟨b, off, f0, f1, f2, f3, hA3, hbl, hy, d0, d1, d2, d3, _, _, _, _, _, _, _⟩ := HY7.out.atLine hkN
  obtain ⟨w8, hw8⟩ : ∃ w8, w8 = w7.alloc (.cells #[] 48) := ⟨_, rfl⟩
  have hb8 : Below w7.heap.size w7 w8 := by rw [hw8]; exact (Below.refl _ _).alloc (Nat.le_refl _) _
  have hin0 := World.ownsRow_lit (base := w7.heap.size) (e := 48) (size := 4) w7 #[] 0 (Nat.le_refl _) (by simp) rfl
  have hin1 : w8.ownsRow w7.heap.size 48 4 (.slice (some ⟨w7.heap.size, 0, none⟩) 0 0) 0 (cK kLine []) := by rw [hw8]; simpa [cK] using hin0
  have hz8 := hb8.size
  have hy8 := (HY7.out.below hb8 (Nat.le_refl _)).1
  subst hA3
  have HY8 := hide hy8
  have HIN := hide hin1
  clear hin0 hin1 hy8 hbl d0 d1 d2 d3
  go_wp2_with (at_builtin; rw [← hw8]; refine appsLine rfl _ _ rfl w7.heap.size (.slice (some ⟨w7.heap.size, 0, none⟩) 0 0) 0 [] rfl HIN.out (some ⟨b, off, none⟩) N c3 ys rfl HY8.out (by omega) (by omega) ?_; intro v9 w9 hown9 hb9 hz9)
  clear HIN HY8 hw8
  obtain ⟨A9, c9, hv9⟩ := own_slice hown9
  subst hv9
  rw [Nat.zero_add, List.nil_append] at hown9
  obtain ⟨g, hA9, hgb⟩ := own_addrB hown9 (by omega)
  subst hA9
  have hb79 := hb8.trans hb9
  have HX9 := hide (HX7.out.below hb79 (Nat.le_refl _))
  have HY9 := hide (HY7.out.below hb79 (Nat.le_refl _))
  have HB9 := hide (HB7.out.trans (hb79.mono HB7.out.size))
  have HN9 : Hid (0 + N = N) := Nat.zero_add N
  have HO9 := hide hown9
  obtain ⟨v0, p0, q0, hst⟩ := own_store (k := k * 4 + 3) HO9.out (by omega)
  have hfine : ∀ x ∈ ys, kLine.fine x := HY9.out.2.2
  obtain ⟨b', off', _, _, _, s0, hA, _, hy', _, _, _, d3, _, _, _, _, _, _, _⟩ := (RdK.of_own (K := kLine) HO9.out hml hfine).atLine hkN
  obtain ⟨rfl, rfl⟩ : g = b' ∧ 0 = off' := by injection hA with hA; injection hA; exact ⟨‹_›, ‹_›⟩
  obtain rfl : f3 = s0 := by have := hy.out.symm.trans hy'.out; simp only [Option.some.injEq, LineZ.mk.injEq] at this; exact this.2.2.2
  simp only [Nat.zero_add] at d3
  have hcr : crcB f3 = true := by
    have := (HLN.out _ (List.mem_of_getElem? hy.out)).1
    unfold lineB at this
    simp only [Bool.and_eq_true] at this
    exact this.2
  have hcb := withinB_iff.1 (show withinB f3 0 65535 = true from hcr)
  have HCR := hide hcr
  clear p0
  have HST := hide hst.out
  have HY := hide hy.out
  have HWD : Hid (∀ W, Below w9.heap.size w9 W → Calls Tryz.prog 23 #[.slice A1 n1 c1, .int .i64 4, .int .i64 60000] W fun e w' => ∃ x : Nat, e = .returned (.int .i64 (x : Int)) ∧ x < 60000 ∧ W = w') := fun W hW => r8Wide_calls A1 n1 c1 4 60000 bs1 W (H1.out.below (HB9.out.trans (hW.mono HB9.out.size)) (Nat.le_refl _)) hn1 (by omega) (by omega) (by omega)
  have i0 : (0 : Int) ≤ (k : Int) := by omega
  have i1 : (k : Int) < (N : Int) := by omega
  have HKC : Hid (∀ W, Below w9.heap.size w9 W → W.cell? ⟨g, k * 4 + 3, none⟩ = some (.int .i64 f3)) := fun W hW => (hW.cell (p := ⟨g, k * 4 + 3, none⟩) (World.block_lt_of_cell? _ _ d3)).trans d3
  have HB79 := hide hb79
  clear hb79 hb9 hz9 hown9 hfine hA hy' hcr hst hy hb8 hz8 HX9 HY9
  rw [HN9.out]
  go_upto_region 10 with fail
  go_cut [] (fun wx => ∃ (x j : Nat), x < 60000 ∧ wx = (w9.drewN j).setCell ⟨g, k * 4 + 3, none⟩ (.int .i64 ((f3 + 1 + (x : Int)) % 65536)))
  case first => as_aux_lemma =>
    --[
    have hwd := HWD.out w9.drew (Below.refl w9.heap.size w9).drew
    have e1 : IntKind.i64.wrap (f3 + 1) = f3 + 1 := IntWalk.i64_in _ (by omega)
    have e2 : ∀ x : Nat, x < 60000 → IntKind.i64.wrap (f3 + 1 + (x : Int)) = f3 + 1 + (x : Int) ∧ (f3 + 1 + (x : Int)).tmod 65536 = (f3 + 1 + (x : Int)) % 65536 := fun x hx => ⟨IntWalk.i64_in _ (by omega), Int.tmod_eq_emod_of_nonneg (by omega)⟩
    have HE2 := hide e2
    have hd3 : w9.drew.cell? ⟨g, k * 4 + 3, none⟩ = some (.int .i64 f3) := d3
    have hq0 : w9.drew.frozen? ⟨g, k * 4 + 3, none⟩ = false := q0
    have HWW := hide hwd
    clear e2 hwd d3 q0
    refine wp_region_held_drew (S := fun _ => True) (by kernel_rfl) trivial (fun _ => ?_)
    refine takeH 0 90 (.slice (some ⟨g, 0, none⟩) N c9) ⟨_, rfl, rfl, rfl, ?_⟩ (by kernel_rfl) (by kernel_rfl) (by kernel_rfl) (fun _ _ _ h => h) trivial ?_
    · intro w hSw; go_simp
    try simp only [Act.put, List.setIfInBounds_toArray, List.set_cons_zero, List.set_cons_succ]
    refine takeH 1 91 (.int .i64 (k : Int)) ⟨_, rfl, rfl, rfl, ?_⟩ (by kernel_rfl) (by kernel_rfl) (by kernel_rfl) (fun _ _ _ h => h) trivial ?_
    · intro w hSw; go_simp
    try simp only [Act.put, List.setIfInBounds_toArray, List.set_cons_zero, List.set_cons_succ]
    refine takeH 2 92 (.slice (some ⟨g, 0, none⟩) N c9) ⟨_, rfl, rfl, rfl, ?_⟩ (by kernel_rfl) (by kernel_rfl) (by kernel_rfl) (fun _ _ _ h => h) trivial ?_
    · intro w hSw; go_simp
    try simp only [Act.put, List.setIfInBounds_toArray, List.set_cons_zero, List.set_cons_succ]
    refine takeH 3 93 (.int .i64 (k : Int)) ⟨_, rfl, rfl, rfl, ?_⟩ (by kernel_rfl) (by kernel_rfl) (by kernel_rfl) (fun _ _ _ h => h) trivial ?_
    · intro w hSw; go_simp
    try simp only [Act.put, List.setIfInBounds_toArray, List.set_cons_zero, List.set_cons_succ]
    refine takeH 4 94 (.pointer (some ⟨g, k * 4, none⟩)) ⟨_, rfl, rfl, rfl, ?_⟩ (by kernel_rfl) (by kernel_rfl) (by kernel_rfl) (fun _ _ _ h => h) trivial ?_
    · intro w hSw; go_simp
    try simp only [Act.put, List.setIfInBounds_toArray, List.set_cons_zero, List.set_cons_succ]
    refine takeH 5 95 (.pointer (some ⟨g, k * 4 + 3, none⟩)) ⟨_, rfl, rfl, rfl, ?_⟩ (by kernel_rfl) (by kernel_rfl) (by kernel_rfl) (fun _ _ _ h => h) trivial ?_
    · intro w hSw; go_simp
    try simp only [Act.put, List.setIfInBounds_toArray, List.set_cons_zero, List.set_cons_succ]
    refine takeH 8 98 (.slice A1 n1 c1) ⟨_, rfl, rfl, rfl, ?_⟩ (by kernel_rfl) (by kernel_rfl) (by kernel_rfl) (fun _ _ _ h => h) trivial ?_
    · intro w hSw; go_simp
    try simp only [Act.put, List.setIfInBounds_toArray, List.set_cons_zero, List.set_cons_succ]
    refine wpAnyH_ready (rs := [6, 9]) (by kernel_rfl) (by simp) ?_
    refine AllReadyH.cons rfl (fun K hK => ?_) (AllReadyH.cons rfl (fun K hK => ?_) AllReadyH.nil)
    · go_simp
      try go_wp2_with fail
      refine hK.out _ _ trivial (fun _ => ?_)
      clear hK K
      try simp only [Act.put, List.setIfInBounds_toArray, List.set_cons_zero, List.set_cons_succ]
      refine takeH 7 97 (.int .i64 (f3 + 1)) ⟨_, rfl, rfl, rfl, ?_⟩ (by kernel_rfl) (by kernel_rfl) (by kernel_rfl) (fun _ _ _ h => h) trivial ?_
      · intro w hSw; go_simp
      try simp only [Act.put, List.setIfInBounds_toArray, List.set_cons_zero, List.set_cons_succ]
      refine wpAnyH_ready (rs := [9]) (by kernel_rfl) (by simp) ?_
      refine AllReadyH.cons rfl (fun K hK => ?_) AllReadyH.nil
      go_simp
      refine HWW.out.mono ?_
      rintro e w' ⟨x, rfl, hx, rfl⟩
      obtain ⟨e2, e3⟩ := HE2.out x hx
      try go_wp2_with fail
      refine hK.out _ _ trivial (fun _ => ?_)
      clear hK K
      try simp only [Act.put, List.setIfInBounds_toArray, List.set_cons_zero, List.set_cons_succ]
      refine takeH 10 100 (.int .i64 (f3 + 1 + (x : Int))) ⟨_, rfl, rfl, rfl, ?_⟩ (by kernel_rfl) (by kernel_rfl) (by kernel_rfl) (fun _ _ _ h => h) trivial ?_
      · intro w hSw; go_simp
      try simp only [Act.put, List.setIfInBounds_toArray, List.set_cons_zero, List.set_cons_succ]
      refine takeH 11 101 (.int .i64 ((f3 + 1 + (x : Int)) % 65536)) ⟨_, rfl, rfl, rfl, ?_⟩ (by kernel_rfl) (by kernel_rfl) (by kernel_rfl) (fun _ _ _ h => h) trivial ?_
      · intro w hSw; go_simp
      try simp only [Act.put, List.setIfInBounds_toArray, List.set_cons_zero, List.set_cons_succ]
      refine takeH 12 102 (.pointer (some ⟨g, k * 4, none⟩)) ⟨_, rfl, rfl, rfl, ?_⟩ (by kernel_rfl) (by kernel_rfl) (by kernel_rfl) (fun _ _ _ h => h) trivial ?_
      · intro w hSw; go_simp
      try simp only [Act.put, List.setIfInBounds_toArray, List.set_cons_zero, List.set_cons_succ]
      refine takeH 13 103 (.pointer (some ⟨g, k * 4 + 3, none⟩)) ⟨_, rfl, rfl, rfl, ?_⟩ (by kernel_rfl) (by kernel_rfl) (by kernel_rfl) (fun _ _ _ h => h) trivial ?_
      · intro w hSw; go_simp
      try simp only [Act.put, List.setIfInBounds_toArray, List.set_cons_zero, List.set_cons_succ]
      refine wpAnyH_ready (rs := [14]) (by kernel_rfl) (by simp) ?_
      refine AllReadyH.cons rfl (fun K hK => ?_) AllReadyH.nil
      go_simp
      try go_wp2_with fail
      refine hK.out _ _ trivial (fun _ => ?_)
      clear hK K
      try simp only [Act.put, List.setIfInBounds_toArray, List.set_cons_zero, List.set_cons_succ]
      refine wpAnyH_done (by kernel_rfl) ?_ _
      go_wp2_with fail
      go_meet
      case rel => exact ⟨x, 1, hx, rfl⟩
    · go_simp
      refine HWW.out.mono ?_
      rintro e w' ⟨x, rfl, hx, rfl⟩
      obtain ⟨e2, e3⟩ := HE2.out x hx
      try go_wp2_with fail
      refine hK.out _ _ trivial (fun _ => ?_)
      clear hK K
      try simp only [Act.put, List.setIfInBounds_toArray, List.set_cons_zero, List.set_cons_succ]
      refine wpAnyH_ready (rs := [6]) (by kernel_rfl) (by simp) ?_
      refine AllReadyH.cons rfl (fun K hK => ?_) AllReadyH.nil
      go_simp
      try go_wp2_with fail
      refine hK.out _ _ trivial (fun _ => ?_)
      clear hK K
      try simp only [Act.put, List.setIfInBounds_toArray, List.set_cons_zero, List.set_cons_succ]
      refine takeH 7 97 (.int .i64 (f3 + 1)) ⟨_, rfl, rfl, rfl, ?_⟩ (by kernel_rfl) (by kernel_rfl) (by kernel_rfl) (fun _ _ _ h => h) trivial ?_
      · intro w hSw; go_simp
      try simp only [Act.put, List.setIfInBounds_toArray, List.set_cons_zero, List.set_cons_succ]
      refine takeH 10 100 (.int .i64 (f3 + 1 + (x : Int))) ⟨_, rfl, rfl, rfl, ?_⟩ (by kernel_rfl) (by kernel_rfl) (by kernel_rfl) (fun _ _ _ h => h) trivial ?_
      · intro w hSw; go_simp
      try simp only [Act.put, List.setIfInBounds_toArray, List.set_cons_zero, List.set_cons_succ]
      refine takeH 11 101 (.int .i64 ((f3 + 1 + (x : Int)) % 65536)) ⟨_, rfl, rfl, rfl, ?_⟩ (by kernel_rfl) (by kernel_rfl) (by kernel_rfl) (fun _ _ _ h => h) trivial ?_
      · intro w hSw; go_simp
      try simp only [Act.put, List.setIfInBounds_toArray, List.set_cons_zero, List.set_cons_succ]
      refine takeH 12 102 (.pointer (some ⟨g, k * 4, none⟩)) ⟨_, rfl, rfl, rfl, ?_⟩ (by kernel_rfl) (by kernel_rfl) (by kernel_rfl) (fun _ _ _ h => h) trivial ?_
      · intro w hSw; go_simp
      try simp only [Act.put, List.setIfInBounds_toArray, List.set_cons_zero, List.set_cons_succ]
      refine takeH 13 103 (.pointer (some ⟨g, k * 4 + 3, none⟩)) ⟨_, rfl, rfl, rfl, ?_⟩ (by kernel_rfl) (by kernel_rfl) (by kernel_rfl) (fun _ _ _ h => h) trivial ?_
      · intro w hSw; go_simp
      try simp only [Act.put, List.setIfInBounds_toArray, List.set_cons_zero, List.set_cons_succ]
      refine wpAnyH_ready (rs := [14]) (by kernel_rfl) (by simp) ?_
      refine AllReadyH.cons rfl (fun K hK => ?_) AllReadyH.nil
      go_simp
      try go_wp2_with fail
      refine hK.out _ _ trivial (fun _ => ?_)
      clear hK K
      try simp only [Act.put, List.setIfInBounds_toArray, List.set_cons_zero, List.set_cons_succ]
      refine wpAnyH_done (by kernel_rfl) ?_ _
      go_wp2_with fail
      go_meet
      case rel => exact ⟨x, 1, hx, rfl⟩
    --]
  case rest => as_aux_lemma =>
    obtain ⟨x, j, hx, hwc⟩ := hcut
    obtain ⟨hc1, hc2⟩ := crc_other HCR.out hx
    obtain ⟨c', hc'⟩ : ∃ c', c' = (f3 + 1 + (x : Int)) % 65536 := ⟨_, rfl⟩
    rw [← hc'] at hc1 hc2 hwc
    obtain ⟨z1, z2, z3, z4⟩ := log_spoilt HV.out HY.out hc1 hc2
    obtain ⟨zs, hzs⟩ : ∃ zs, zs = ys.set k ⟨f0, f1, f2, c'⟩ := ⟨_, rfl⟩
    simp only [← hzs] at z1 z2 z3 z4
    have hown := HST.out (.int .i64 c')
    rw [cK_set3 HY.out] at hown
    simp only [← hzs] at hown
    have hzl : zs.length = N := by rw [hzs, List.length_set]; exact hml
    have hzf : ∀ z ∈ zs, kLine.fine z ∧ z.text.size ≤ 1000 := by
      intro z hz
      rw [hzs] at hz
      rcases List.mem_or_eq_of_mem_set hz with h | h
      · exact ⟨HY7.out.2.2 z h, HYS.out.1 z h⟩
      · have hm := List.mem_of_getElem? HY.out
        have h1 := HY7.out.2.2 _ hm
        have h2 := HYS.out.1 _ hm
        have h3 := withinB_iff.1 (show withinB c' 0 65535 = true from hc1)
        rw [h]
        exact ⟨⟨h1.1, h1.2.1, h1.2.2.1, by simp only; unfold I64; omega⟩, h2⟩
    have hb7c : Below w7.heap.size w7 wc := by rw [hwc]; exact (below_drewN HB79.out j).setCell hgb _
    have hzc : RdK kLine wc (some ⟨g, 0, none⟩) N zs := by
      rw [hwc]
      exact RdK.of_own (K := kLine) hown hzl (fun z hz => (hzf z hz).1)
    have HMZ := hide (show MidL zs from fun z hz => Nat.le_trans (hzf z hz).2 (by omega))
    have HX := hide (HX7.out.below hb7c (Nat.le_refl _))
    have HYc := hide (HY7.out.below hb7c (Nat.le_refl _))
    have HBc := hide (HB7.out.trans (hb7c.mono HB7.out.size))
    have HZ := hide hzc
    have FZ := hide (implFirstBroken_calls (some ⟨g, 0, none⟩) N c9 zs wc (HT.out.here HBc.out) HZ.out (by omega) HMZ.out)
    simp only [first_some z1 z2 (by omega)] at FZ
    have SZ := hide (fun W (hT : TabPM W) (hz : RdK kLine W (some ⟨g, 0, none⟩) N zs) => implSealLog_calls (some ⟨g, 0, none⟩) N c9 zs W hT hz (by omega) HMZ.out)
    unfold LinPost at SZ
    simp only [show sealV zs = ys by unfold sealV; rw [if_pos z1, z4], show sealC zs = 0 by unfold sealC; rw [if_pos z1]] at SZ
    have VZ := hide (fun W (hT : TabPM W) (hz : RdK kLine W (some ⟨g, 0, none⟩) N zs) => implValidLog_calls (some ⟨g, 0, none⟩) N c9 zs W hT hz (by omega) HMZ.out)
    simp only [z3] at VZ
    clear hwc hc' hc1 hc2 z1 z2 z3 z4 hzs hown hzl hzf hb7c hzc HX7 HY7 HB7 HB79 HST HWD HKC hx d3 q0 HO9 hcb
    go_wp2_with fail
    refine FZ.out.mono ?_
    rintro e w10 ⟨rfl, hb10⟩
    have HX10 := hide (HX.out.below hb10 (Nat.le_refl _))
    have HY10 := hide (HYc.out.below hb10 (Nat.le_refl _))
    have HZ10 := hide (HZ.out.below hb10 (Nat.le_refl _))
    have HB10 := hide (HBc.out.trans (hb10.mono HBc.out.size))
    clear hb10 FZ HX HYc HZ HBc
    go_wp2_with fail
    refine (SZ.out w10 (HT.out.here HB10.out) HZ10.out).mono ?_
    rintro e w11 ⟨A11, n11, c11, rfl, f11, N11, hb11⟩
    have HX11 := hide (HX10.out.below hb11 (Nat.le_refl _))
    have HY11 := hide (HY10.out.below hb11 (Nat.le_refl _))
    have HZ11 := hide (HZ10.out.below hb11 (Nat.le_refl _))
    have HB11 := hide (HB10.out.trans (hb11.mono HB10.out.size))
    obtain rfl : N = n11 := by rw [← f11.2.1]; exact hml.symm
    have HH11 := hide f11.rd
    clear hb11 SZ HX10 HY10 HZ10 HB10 f11 N11
    go_wp2_with fail
    refine (VZ.out w11 (HT.out.here HB11.out) HZ11.out).mono ?_
    rintro e w12 ⟨rfl, hb12⟩
    have HX12 := hide (HX11.out.below hb12 (Nat.le_refl _))
    have HY12 := hide (HY11.out.below hb12 (Nat.le_refl _))
    have HH12 := hide (HH11.out.below hb12 (Nat.le_refl _))
    have HB12 := hide (HB11.out.trans (hb12.mono HB11.out.size))
    clear hb12 VZ HX11 HY11 HZ11 HH11 HB11
    go_wp2_with fail
    go_loopw [16, 17, 18] (fun i _ _ wr => ∃ r : Nat, r ≤ N ∧ i = .int .i64 r ∧ Hid (Below w12.heap.size w12 wr)) (fun i _ _ _ => N - (intOf i).toNat)
    case atStart => exact ⟨0, Nat.zero_le _, rfl, Below.refl _ _⟩
    case round => as_aux_lemma =>
      obtain ⟨r, hr, rfl, HBr⟩ := hrel
      by_cases hrN : r < N
      ·
        --[
        have hBx := HB12.out.trans (HBr.out.mono HB12.out.size)
        obtain ⟨b1, o1, g0, g1, g2, g3, hA1, hbl1, hy1, k0, k1, k2, k3, hs0, hs1, hs2, hs3, hs4, hs5, hs6⟩ := (HY12.out.below HBr.out (Nat.le_refl _)).atLine hrN
        obtain ⟨rfl, rfl⟩ : b = b1 ∧ off = o1 := by injection hA1 with hA1; injection hA1; exact ⟨‹_›, ‹_›⟩
        obtain ⟨b2, o2, e0, e1, e2, e3, hA2, hbl2, hy2, l0, l1, l2, l3, _, _, _, _, _, _, _⟩ := (HH12.out.below HBr.out (Nat.le_refl _)).atLine hrN
        obtain ⟨rfl, rfl, rfl, rfl⟩ : g0 = e0 ∧ g1 = e1 ∧ g2 = e2 ∧ g3 = e3 := by have := hy1.out.symm.trans hy2.out; simpa only [Option.some.injEq, LineZ.mk.injEq] using this
        obtain ⟨hl1, hl2, hl3, hl4⟩ := HLN.out _ (List.mem_of_getElem? hy1.out)
        have hmz := HYS.out.1 _ (List.mem_of_getElem? hy1.out)
        have LT : Hid (Calls Tryz.prog 30 #[.agg #[.int .i64 g0, .int .i64 g1, .string g2, .int .i64 g3]] wr fun e w' => e = .returned (.string (textL ⟨g0, g1, g2, g3⟩)) ∧ Below wr.heap.size wr w') := implLineText_calls ⟨g0, g1, g2, g3⟩ wr (HT.out.here hBx) ⟨⟨hs0, hs1⟩, ⟨hs2, hs3⟩, hs4, hs5, hs6⟩ (Nat.le_trans hmz (by omega))
        obtain ⟨T, hTx⟩ : ∃ T, T = textL ⟨g0, g1, g2, g3⟩ := ⟨_, rfl⟩
        rw [← hTx] at LT hl2 hl3 hl4
        have RL := hide (fun W (hT : TabPM W) (hE : TabE W) => implReadLine_calls T W hT hE (by omega))
        unfold LinBPost at RL
        simp only [hl2, hl3] at RL
        subst hA2
        have HK : Hid (∀ W, Below wr.heap.size wr W → (W.cell? ⟨b, off + r * 4, none⟩ = some (.int .i64 g0) ∧ W.cell? ⟨b, off + r * 4 + 1, none⟩ = some (.int .i64 g1) ∧ W.cell? ⟨b, off + r * 4 + 2, none⟩ = some (.string g2) ∧ W.cell? ⟨b, off + r * 4 + 3, none⟩ = some (.int .i64 g3)) ∧ W.cell? ⟨b2, o2 + r * 4, none⟩ = some (.int .i64 g0) ∧ W.cell? ⟨b2, o2 + r * 4 + 1, none⟩ = some (.int .i64 g1) ∧ W.cell? ⟨b2, o2 + r * 4 + 2, none⟩ = some (.string g2) ∧ W.cell? ⟨b2, o2 + r * 4 + 3, none⟩ = some (.int .i64 g3)) := fun W hW =>
          ⟨⟨(hW.cell (p := ⟨b, off + r * 4, none⟩) hbl1).trans k0, (hW.cell (p := ⟨b, off + r * 4 + 1, none⟩) hbl1).trans k1, (hW.cell (p := ⟨b, off + r * 4 + 2, none⟩) hbl1).trans k2, (hW.cell (p := ⟨b, off + r * 4 + 3, none⟩) hbl1).trans k3⟩,
           (hW.cell (p := ⟨b2, o2 + r * 4, none⟩) hbl2).trans l0, (hW.cell (p := ⟨b2, o2 + r * 4 + 1, none⟩) hbl2).trans l1, (hW.cell (p := ⟨b2, o2 + r * 4 + 2, none⟩) hbl2).trans l2, (hW.cell (p := ⟨b2, o2 + r * 4 + 3, none⟩) hbl2).trans l3⟩
        have i3 : (0 : Int) ≤ (r : Int) := by omega
        have i4 : (r : Int) < (N : Int) := by omega
        clear hA1 hy1 hy2 hl1 hl2 hl3 hl4 hmz hTx hs0 hs1 hs2 hs3 hs4 hs5 hs6 hbl1 hbl2 l0 l1 l2 l3
        go_wp2_with fail
        refine LT.out.mono ?_
        rintro e w14 ⟨rfl, hb14⟩
        have HB14 := hide hb14
        have HE14 := hide (HE.out.here (hBx.trans (hb14.mono hBx.size)))
        have HT14 := hide (HT.out.here (hBx.trans (hb14.mono hBx.size)))
        clear hb14 LT k0 k1 k2 k3
        go_wp2_with fail
        refine (RL.out w14 HT14.out HE14.out).mono ?_
        rintro e w15 ⟨rfl, hb15⟩
        have HB15 := hide (HB14.out.trans (hb15.mono HB14.out.size))
        clear hb15 RL
        go_upto_region 19 with fail
        obtain ⟨w16, hw16⟩ : ∃ w16, w16 = w15.alloc (.cells #[.int .i64 g0, .int .i64 g1, .string g2, .int .i64 g3] 48) := ⟨_, rfl⟩
        have hb16 : Below wr.heap.size wr w16 := by rw [hw16]; exact HB15.out.alloc HB15.out.size _
        obtain ⟨k0, k1, k2, k3⟩ : w16.cell? ⟨w15.heap.size, 0, none⟩ = some (.int .i64 g0) ∧ w16.cell? ⟨w15.heap.size, 1, none⟩ = some (.int .i64 g1) ∧ w16.cell? ⟨w15.heap.size, 2, none⟩ = some (.string g2) ∧ w16.cell? ⟨w15.heap.size, 3, none⟩ = some (.int .i64 g3) := by rw [hw16]; exact (At4.new w15 _ _ _ _).out.1 |> fun h => ⟨h, (At4.new w15 _ _ _ _).out.2.1, (At4.new w15 _ _ _ _).out.2.2.1, (At4.new w15 _ _ _ _).out.2.2.2.1⟩
        obtain ⟨⟨c0', c1', c2', c3'⟩, d0, d1, d2, d3⟩ := HK.out w16 hb16
        have HB16 := hide (fun j => HBr.out.trans ((below_drewN hb16 j).mono HBr.out.size))
        rw [← hw16]
        have q2 := (str_eq (rfl : g2 = g2)).1
        clear hw16 HK hb16
        go_quiet (fail)
        go_wp2_with fail
        go_roundw
        case rel => exact ⟨r + 1, by omega, by go_num, HB16.out _⟩
        case measure => simp [intOf]; omega
        --]
      · have hre : N = r := by omega
        subst hre
        obtain ⟨X0, X1, X2, X3⟩ := X
        obtain ⟨w13, hw13⟩ : ∃ w13, w13 = wr := ⟨_, rfl⟩
        rw [← hw13] at HBr ⊢
        have HB13 := hide (HB12.out.trans (HBr.out.mono HB12.out.size))
        have HX13 := hide (HX12.out.below HBr.out (Nat.le_refl _))
        have HY13 := hide (HY12.out.below HBr.out (Nat.le_refl _))
        obtain ⟨S, hS⟩ : ∃ S : Nat, S = sealF 65535 xs := ⟨_, rfl⟩
        rw [← hS] at HSE
        clear hw13 HBr hr hrN HB12 HX12 HY12 HH12 hS HLN HY HCR H0 H1 hc3
        go_upto_if 178 with fail
        go_cut [19] (fun v wx => v = .int .i64 (S : Int) ∧ wx = w13)
        case first => as_aux_lemma =>
          --[
          rcases Nat.eq_zero_or_pos m with h0 | h0
          · have hS0 := HSE.out.2.2.2 h0
            subst h0
            subst hS0
            go_wp2_with fail
            go_meet
            case rel => exact ⟨rfl, rfl⟩
          · obtain ⟨q1, hq1⟩ : ∃ q1, m = q1 + 1 := ⟨m - 1, by omega⟩
            obtain ⟨b1, o1, g0, g1, g2, g3, hA1, hbl1, hy1, k0, k1, k2, k3, hs0, hs1, hs2, hs3, hs4, hs5, hs6⟩ := HX13.out.atLine (show q1 < m by omega)
            have h3 : g3 = (S : Int) := HSE.out.2.2.1 q1 _ hq1 hy1.out
            subst hA1
            rw [h3] at k3
            have i3 : (0 : Int) < (m : Int) := by omega
            have i4 : (0 : Int) ≤ (q1 : Int) := by omega
            have i5 : (q1 : Int) < (m : Int) := by omega
            have ew : IntKind.i64.wrap ((m : Int) - 1) = (q1 : Int) := by rw [IntKind.wrap_i64]; omega
            clear hq1 h3 hy1 hbl1
            go_wp2_with fail
            go_meet
            case rel => exact ⟨rfl, rfl⟩
          --]
        case rest => as_aux_lemma =>
          obtain ⟨hv, hwc⟩ := hcut
          subst hv
          subst hwc
          obtain ⟨b1, o1, g0, g1, g2, g3, hA1, hbl1, hy1, k0, k1, k2, k3, hs0, hs1, hs2, hs3, hs4, hs5, hs6⟩ := HY13.out.atLine hNm2
          obtain ⟨rfl, rfl⟩ : b = b1 ∧ off = o1 := by injection hA1 with hA1; injection hA1; exact ⟨‹_›, ‹_›⟩
          obtain ⟨rfl, rfl, rfl, rfl⟩ : X0 = g0 ∧ X1 = g1 ∧ X2 = g2 ∧ X3 = g3 := by have := HYS.out.2.2.symm.trans hy1.out; simpa only [Option.some.injEq, LineZ.mk.injEq] using this
          have hX2 : X2.size ≤ 1000 := HYS.out.1 _ (List.mem_of_getElem? hy1.out)
          have hse := HSE.out.1
          have hS6 := HSE.out.2.1
          simp only at hse
          have SO : Hid (∀ W, TabPM W → Calls Tryz.prog 31 #[.int .i64 (S : Int), .int .i64 X0, .int .i64 X1, .string X2] W fun e w' => e = .returned (.tuple #[.int .i64 X3, .int .i64 0]) ∧ Below W.heap.size W w') := fun W hT => by
            have := implSealOf_calls (S : Int) X0 X1 X2 W hT (by unfold I64; omega) ⟨hs0, hs1⟩ ⟨hs2, hs3⟩ hs4 (by omega)
            simp only [hse] at this
            exact this
          have CW := hide (fun W (hT : TabPM W) (hy : RdK kLine W (some ⟨b, off, none⟩) N ys) => implCountWords_calls (some ⟨b, off, none⟩) N c3 ys W hT hy (by omega) (mid_of_short HYS.out.1))
          unfold CwPost at CW
          simp only [HCW.out.1] at CW
          have LW := hide (fun W (hT : TabPM W) (hy : RdK kLine W (some ⟨b, off, none⟩) N ys) => implLinesWith_calls (some ⟨b, off, none⟩) N c3 ys rideW W hT hy (by decide) (by omega) (by decide) (mid_of_short HYS.out.1))
          unfold NumsPost at LW
          simp only [HLL.out.1] at LW
          have LD := hide (fun W (hT : TabPM W) (hy : RdK kLine W (some ⟨b, off, none⟩) N ys) => implLinesOfDay_calls (some ⟨b, off, none⟩) N c3 ys X0 W hT hy ⟨hs0, hs1⟩ (by omega) (mid_of_short HYS.out.1))
          unfold NumsPost at LD
          have hll := HLL.out.2.2.1
          simp only at hll
          simp only [hll] at LD
          have HM2 := hide (show (m : Int) ∈ dayV ys X0 from HLL.out.2.2.2)
          obtain ⟨w14, hw14⟩ : ∃ w14, w14 = wc.alloc (.cells #[.int .i64 X0, .int .i64 X1, .string X2, .int .i64 X3] 48) := ⟨_, rfl⟩
          have hb14 : Below wc.heap.size wc w14 := by rw [hw14]; exact (Below.refl _ _).alloc (Nat.le_refl _) _
          have HAT : Hid (At4 w14 wc.heap.size (.int .i64 X0) (.int .i64 X1) (.string X2) (.int .i64 X3)) := by rw [hw14]; exact At4.new wc _ _ _ _
          have hz14 : wc.heap.size < w14.heap.size := by rw [hw14]; simp
          have HY14 := hide (HY13.out.below hb14 (Nat.le_refl _))
          have HB14 := hide (HB13.out.trans (hb14.mono HB13.out.size))
          have i3 : (0 : Int) ≤ (m : Int) := by omega
          have i4 : (m : Int) < (N : Int) := by omega
          clear hA1 hbl1 hy1 hse hll hs0 hs1 hs2 hs3 hs5 hs6 hb14 HX13 HY13 HB13
          go_wp2_with fail
          rw [← hw14]
          clear hw14 k0 k1 k2 k3
          refine (SO.out w14 (HT.out.here HB14.out)).mono ?_
          rintro e w15 ⟨rfl, hb15⟩
          have HAT15 := hide (HAT.out.below hb15 hz14)
          have HY15 := hide (HY14.out.below hb15 (Nat.le_refl _))
          have HB15 := hide (HB14.out.trans (hb15.mono HB14.out.size))
          have hz15 := hb15.size
          clear hb15 SO HAT HY14 HB14
          go_wp2_with fail
          refine (CW.out w15 (HT.out.here HB15.out) HY15.out).mono ?_
          rintro e w16 ⟨Aw, nw, cw, An, nn, cn, l0, u0, l1, u1, rfl, fw, Nw, fn, Nn, _, hb16⟩
          obtain rfl : nw = nn := by rw [← fw.2.1, ← fn.len]; exact HCW.out.2.1
          have hnn : nw ≤ m + 1 := by rw [← fn.len]; exact HCW.out.2.2.1
          have HAT16 := hide (HAT15.out.below hb16 (by omega))
          have HY16 := hide (HY15.out.below hb16 (Nat.le_refl _))
          have HB16 := hide (HB15.out.trans (hb16.mono HB15.out.size))
          have HWW := hide fw.rd
          have HNN := hide fn.rd
          have hz16 := hb16.size
          clear hb16 CW HAT15 HY15 HB15 fw fn
          go_wp2_with fail
          refine (LW.out w16 (HT.out.here HB16.out) HY16.out).mono ?_
          rintro e w17 ⟨A17, n17, c17, rfl, f17, N17, hb17⟩
          have hat17 := HAT16.out.below hb17 (by omega)
          obtain ⟨x0, _, _, _, _⟩ := hat17.out
          have HAT17 := hide hat17
          have HY17 := hide (HY16.out.below hb17 (Nat.le_refl _))
          have HB17 := hide (HB16.out.trans (hb17.mono HB16.out.size))
          have HWW := hide (HWW.out.below hb17 (Nat.le_refl _))
          have HNN := hide (HNN.out.below hb17 (Nat.le_refl _))
          have HF17 := hide f17.rd
          have hz17 := hb17.size
          clear hb17 LW HAT16 HY16 HB16 f17 hat17
          go_wp2_with fail
          clear x0
          refine (LD.out w17 (HT.out.here HB17.out) HY17.out).mono ?_
          rintro e w18 ⟨A18, n18, c18, rfl, f18, N18, hb18⟩
          obtain ⟨_, _, _, x3, _⟩ := (HAT17.out.below hb18 (by omega)).out
          have HB18 := hide (HB17.out.trans (hb18.mono HB17.out.size))
          have HWW := hide (HWW.out.below hb18 (Nat.le_refl _))
          have HNN := hide (HNN.out.below hb18 (Nat.le_refl _))
          have HF17 := hide (HF17.out.below hb18 (Nat.le_refl _))
          have R1 := hide (r8Has_calls A17 n17 c17 (withV ys rideW) m w18 HF17.out N17)
          rw [decide_eq_true HLL.out.2.1] at R1
          have R2 := hide (r8Has_calls A18 n18 c18 (dayV ys X0) m w18 f18.rd N18)
          rw [decide_eq_true HM2.out] at R2
          clear hb18 LD HAT17 HY17 HB17 f18 HF17
          go_wp2_with fail
          refine R1.out.mono ?_
          rintro e w' ⟨rfl, rfl⟩
          go_wp2_with fail
          refine R2.out.mono ?_
          rintro e w' ⟨rfl, rfl⟩
          clear R1 R2 x3
          go_wp2_with fail
          obtain ⟨ws, hws⟩ : ∃ ws, ws = cwW ys := ⟨_, rfl⟩
          obtain ⟨cs, hcs⟩ : ∃ cs, cs = cwN ys := ⟨_, rfl⟩
          have hC := HCW.out.2.2.2
          rw [← hws] at HWW
          rw [← hcs] at HNN
          rw [← hws, ← hcs] at hC
          have HC := hide hC
          clear hC hws hcs
          go_loopw [30, 31] (fun s i wr => ∃ k : Nat, k ≤ nw ∧ i = .int .i64 k ∧ s = .int .i64 (sumZ (cs.take k)) ∧ ∃ j, wr = w18.drewN j) (fun _ i _ => nw - (intOf i).toNat)
          case atStart => exact ⟨0, Nat.zero_le _, rfl, rfl, 0, rfl⟩
          case round => as_aux_lemma =>
            obtain ⟨k, hk, rfl, rfl, hj⟩ := hrel
            obtain ⟨wi, hwi⟩ : ∃ wi, wi = wr := ⟨_, rfl⟩
            rw [← hwi] at hj ⊢
            have HJ := hide hj
            have hr1 : RdI wi An nw cs := by obtain ⟨j, e⟩ := HJ.out; rw [e]; exact HNN.out.drewN j
            have hr2 : RdK kB wi Aw nw ws := by obtain ⟨j, e⟩ := HJ.out; rw [e]; exact HWW.out.drewN j
            have HNJ : Hid (∀ m, ∃ j, wi.drewN m = w18.drewN j) := by obtain ⟨j, e⟩ := HJ.out; intro m; exact ⟨_, by rw [e, World.drewN_drewN]⟩
            clear hwi hj
            by_cases hlt : k < nw
            · obtain ⟨bc, oc, y, rfl, hbc, hy, hcy, _, _⟩ := hr1.at hlt
              have hy1 := HC.out.2.1 y (List.mem_of_getElem? hy.out)
              have s1 := HC.out.2.2.2 k
              have s2 := HC.out.2.2.2 (k + 1)
              rw [sumZ_snoc hy.out] at s2
              have HE := hide (sumZ_snoc hy.out)
              obtain ⟨s, hs⟩ : ∃ s, s = sumZ (cs.take k) := ⟨_, rfl⟩
              rw [← hs] at s1 s2 HE ⊢
              have d1 : decide (y < 1) = false := decide_eq_false (by omega)
              have i5 : (0 : Int) ≤ (k : Int) := by omega
              have i6 : (k : Int) < (nw : Int) := by omega
              rcases Nat.eq_zero_or_pos k with h0 | h0
              · subst h0
                rw [Nat.add_zero] at hcy
                clear hr1 hr2 HJ hy hs
                go_wp2_with fail
                go_quiet (fail)
                go_wp2
                go_roundw
                case rel => exact ⟨1, by omega, by go_num, by rw [HE.out], HNJ.out _⟩
                case measure => simp [intOf]; omega
              · obtain ⟨q1, hq1⟩ : ∃ q1, q1 + 1 = k := ⟨k - 1, by omega⟩
                obtain ⟨bw, ow, u, hAw, hbw, hu, hcu, _⟩ := hr2.atB (show q1 < nw by omega)
                obtain ⟨bw2, ow2, v, hAw2, _, hv, hcv, _⟩ := hr2.atB hlt
                subst hAw
                obtain ⟨rfl, rfl⟩ : bw = bw2 ∧ ow = ow2 := by simpa using hAw2
                have hl : strLess u v = true := by
                  obtain ⟨p1, p2⟩ := List.getElem?_eq_some_iff.1 hu.out
                  obtain ⟨p3, p4⟩ := List.getElem?_eq_some_iff.1 hv.out
                  have := List.pairwise_iff_getElem.1 HC.out.1 q1 k p1 p3 (by omega)
                  rwa [p2, p4] at this
                have hb : Op.bytesLess u.toList v.toList = true := hl
                have d3 : decide ((0 : Int) < (k : Int)) = true := decide_eq_true (by omega)
                have d4 : decide (0 < k) = true := decide_eq_true h0
                have ew : IntKind.i64.wrap ((k : Int) - 1) = (q1 : Int) := by rw [IntKind.wrap_i64]; omega
                have i7 : (0 : Int) ≤ (q1 : Int) := by omega
                have i8 : (q1 : Int) < (nw : Int) := by omega
                clear hr1 hr2 HJ hy hs hAw2 hu hv hl hq1
                go_wp2_with fail
                go_quiet (fail)
                go_wp2
                go_roundw
                case rel => exact ⟨k + 1, by omega, by go_num, by rw [HE.out], HNJ.out _⟩
                case measure => simp [intOf]; omega
            · have hkn : k = nw := by omega
              have hsum : sumZ (cs.take k) = (N : Int) := by
                rw [hkn, ← hr1.len, List.take_length, HC.out.2.2.1]
                have := HYS.out.2.1
                omega
              rw [hsum]
              have HBE := hide (HB18.out.trans ((below_of_draws HJ.out).mono HB18.out.size))
              clear hsum hr1 hr2
              go_wp2
              go_ret
              exact ⟨rfl, HBE.out⟩

end Go.Proofs.YtcclfmapbgdpdaaGreatDoor

/- l27Merge of the reference. -/
import Derived.Test.YtmcdafaadodekaaMergeS
namespace Go.Proofs.Ytmcdafaadodekaa
open Go.RowKit
set_option linter.unusedVariables false

theorem emp_yes {s : ByteArray} (h : s.size = 0) : s.toList.isEmpty = true := by
  rw [toList_bs, List.isEmpty_iff]
  exact List.eq_nil_of_length_eq_zero h
theorem emp_no {s : ByteArray} (h : s.size ≠ 0) : s.toList.isEmpty = false := by
  rw [toList_bs, ← Bool.not_eq_true, List.isEmpty_iff]
  intro e
  exact h (by rw [← bs_len, e]; rfl)
/-- The setting that merging takes for a name. -/
def pickS (base a b : List SetZ) (nm : ByteArray) : SetZ := if getS a nm = getS base nm then getS b nm else getS a nm
theorem pick_val {base a b : List SetZ} (g0 : stateB base = true) (g1 : stateB a = true) (g2 : stateB b = true) {nm : ByteArray} (hn : nm.size ≠ 0) :
    ((pickS base a b nm).name.size ≠ 0 ↔ 0 ≤ mrgV base a b nm) ∧ (0 ≤ mrgV base a b nm → pickS base a b nm = ⟨nm, mrgV base a b nm⟩) := by
  have h := getS_eq g1 g0 hn
  unfold pickS mrgV
  by_cases c : valZ a nm = valZ base nm
  · rw [if_pos (h.2 c), if_pos c]
    exact ⟨getS_ne g2 hn, getS_val⟩
  · rw [if_neg (fun e => c (h.1 e)), if_neg c]
    exact ⟨getS_ne g1 hn, getS_val⟩
def MrgPost (base a b : List SetZ) (w : World) (e : Ending) (w' : World) : Prop :=
  ∃ A' n' c', e = .returned (.tuple #[.slice A' n' c', .int .i64 (mrgC base a b)]) ∧ FrK kSetting w' w.heap.size w'.heap.size 76 A' n' (mrgR base a b) ∧ n' ≤ 1048576 ∧ Below w.heap.size w w'
theorem mrg_conf {base a b : List SetZ} (h : confZ base a b ≠ []) : mrgC base a b = 6 ∧ mrgR base a b = [] := by unfold mrgC mrgR; rw [if_neg h, if_neg h]; exact ⟨rfl, rfl⟩
theorem mrg_full {base a b : List SetZ} (h : confZ base a b = []) (h2 : 24 < (mrgZ base a b (namesZ base a b)).length) : mrgC base a b = 5 ∧ mrgR base a b = [] := by unfold mrgC mrgR; rw [if_pos h, if_pos h, if_neg (by omega), if_neg (by omega)]; exact ⟨rfl, rfl⟩
theorem mrg_ok {base a b : List SetZ} (h : confZ base a b = []) (h2 : (mrgZ base a b (namesZ base a b)).length ≤ 24) : mrgC base a b = 0 ∧ mrgR base a b = mrgZ base a b (namesZ base a b) := by unfold mrgC mrgR; rw [if_pos h, if_pos h, if_pos h2, if_pos h2]; exact ⟨rfl, rfl⟩
theorem mrgZ_fine {s0 s1 s2 : List SetZ} (g0 : stateB s0 = true) (g1 : stateB s1 = true) (g2 : stateB s2 = true) (f0 : ∀ s ∈ s0, s.fine) (f1 : ∀ s ∈ s1, s.fine) (f2 : ∀ s ∈ s2, s.fine) : ∀ s ∈ mrgZ s0 s1 s2 (namesZ s0 s1 s2), kSetting.fine s := fun s hs => by
  unfold mrgZ at hs
  obtain ⟨nm, hm, hs⟩ := List.mem_flatMap.1 hs
  have hf := names_fine f0 f1 f2 nm hm
  unfold mrgF at hs
  split at hs
  · simp only [List.mem_singleton] at hs
    subst hs
    refine ⟨hf, ?_⟩
    have r1 := val_range g1 nm
    have r2 := val_range g2 nm
    simp only
    unfold mrgV
    split <;> exact ⟨by omega, by omega⟩
  · simp at hs

set_option maxHeartbeats 8000000 in
theorem l27Merge_calls (A0 : Option Addr) (n0 c0 : Nat) (A1 : Option Addr) (n1 c1 : Nat) (A2 : Option Addr) (n2 c2 : Nat) (s0 s1 s2 : List SetZ) (w : World) (h0 : RdS w A0 n0 s0) (h1 : RdS w A1 n1 s1) (h2 : RdS w A2 n2 s2) (g0 : stateB s0 = true) (g1 : stateB s1 = true) (g2 : stateB s2 = true) :
    Calls Try.prog 102 #[.slice A0 n0 c0, .slice A1 n1 c1, .slice A2 n2 c2] w (MrgPost s0 s1 s2 w) := by
  have l0 := state_len g0
  have l1 := state_len g1
  have l2 := state_len g2
  rw [h0.2.1] at l0
  rw [h1.2.1] at l1
  rw [h2.2.1] at l2
  have HC := hide (l27Conflicts_calls A0 n0 c0 A1 n1 c1 A2 n2 c2 s0 s1 s2 w h0 h1 h2 g0 g1 g2)
  by_cases hcf : confZ s0 s1 s2 = []
  case neg =>
    have HE := hide (mrg_conf hcf)
    have HL := hide (show 0 < (confZ s0 s1 s2).length from List.length_pos_iff.2 hcf)
    clear hcf g0 g1 g2
    go_enter Try.func102, Try.ntmps102
    go_wp2_with fail
    refine HC.out.mono ?_
    rintro e w1 ⟨v1, m, rfl, hown1, hm, hb1⟩
    have hm0 : 0 < m := by have := HL.out; omega
    obtain ⟨A5, c5, rfl⟩ := own_slice hown1
    clear hown1 hm
    go_wp2
    go_ret2
    refine ⟨none, 0, 0, ret_two rfl (congrArg (Value.int .i64) HE.out.1.symm), ?_, by omega, hb1⟩
    rw [HE.out.2]
    exact FrK.nil
  have HCF := hide hcf
  have HFN := hide (names_fine h0.2.2 h1.2.2 h2.2.2)
  have HZF := hide (mrgZ_fine g0 g1 g2 h0.2.2 h1.2.2 h2.2.2)
  have HNE := hide (fun (nm : ByteArray) (h : nm ∈ namesZ s0 s1 s2) => names_ne g0 g1 g2 h)
  have HPV := hide (fun (nm : ByteArray) (h : nm.size ≠ 0) => pick_val g0 g1 g2 h)
  have HS0 := hide (state_sorted g0)
  have HS1 := hide (state_sorted g1)
  have HS2 := hide (state_sorted g2)
  have HNL := hide (namesZ_len s0 s1 s2)
  rw [h0.2.1, h1.2.1, h2.2.1] at HNL
  clear g0 g1 g2 hcf
  go_enter Try.func102, Try.ntmps102
  go_wp2_with fail
  refine HC.out.mono ?_
  clear HC
  rintro e w0 ⟨v1, m0, rfl, hown1, hm, hb0⟩
  have hm0 : m0 = 0 := by rw [HCF.out] at hm; simpa using hm.symm
  subst hm0
  obtain ⟨A5, c5, rfl⟩ := own_slice hown1
  clear hown1 hm
  go_wp2_with fail
  refine (l27Names_calls A0 n0 c0 A1 n1 c1 A2 n2 c2 s0 s1 s2 _ (h0.below hb0 (Nat.le_refl _)) (h1.below hb0 (Nat.le_refl _)) (h2.below hb0 (Nat.le_refl _)) l0 l1 l2).mono ?_
  rintro e w1 ⟨v1, m, rfl, hown1, hm, hb1'⟩
  have hb1 := hb0.trans (hb1'.mono hb0.size)
  have hm72 : m ≤ 72 := by have := HNL.out; rw [hm] at this; omega
  have HM := hide hm
  obtain ⟨A6, c6, rfl⟩ := own_slice hown1
  have HR := hide (RdK.of_own (K := kB) hown1 hm HFN.out)
  clear hown1 hm hb1'
  have hown0 := World.ownsRow_lit (base := w1.heap.size) (e := 76) (size := 2) w1 #[] 0 (Nat.le_refl _) (by simp) rfl
  have hba := (Below.refl w1.heap.size w1).alloc (Nat.le_refl _) (.cells #[] 76)
  obtain ⟨wo, rfl⟩ : ∃ wo : World, wo = w1 := ⟨_, rfl⟩
  go_wp2
  go_loopw [9, 10, 11] (fun v i p wr => ∃ (j k : Nat), j ≤ m ∧ i = .int .i64 j ∧ k ≤ j ∧ wr.ownsRow wo.heap.size 76 2 v k (cK kSetting (mrgZ s0 s1 s2 ((namesZ s0 s1 s2).take j))) ∧ Hid ((mrgZ s0 s1 s2 ((namesZ s0 s1 s2).take j)).length = k) ∧ Below wo.heap.size wo wr) (fun _ i _ _ => m - (intOf i).toNat)
  case atStart => exact ⟨0, 0, Nat.zero_le _, rfl, by omega, by simpa [cK, mrgZ] using hown0, rfl, hba⟩
  case round =>
    clear hown0 hba
    obtain ⟨j, k, hj, rfl, hkj, hown, HK, hb⟩ := hrel
    have HO := hide hown
    clear hown
    have hbx := hb1.trans (hb.mono hb1.size)
    by_cases hlt : j < m
    · obtain ⟨b, off, nm, rfl, hbl, hx, hc, hs1⟩ := RdK.atB HR.out hlt
      have hmem := List.mem_of_getElem? hx.out
      have HQ := hide (HPV.out nm (HNE.out nm hmem))
      have HPK : Hid (pickS s0 s1 s2 nm = if getS s1 nm = getS s0 nm then getS s2 nm else getS s1 nm) := rfl
      have HSN := hide (mrgZ_snoc (base := s0) (a := s1) (b := s2) hx.out)
      obtain ⟨xn, xv, hX⟩ := getS_split s0 nm
      obtain ⟨yn, yv, hY⟩ := getS_split s1 nm
      obtain ⟨zn, zv, hZ⟩ := getS_split s2 nm
      rw [hX, hY, hZ] at HPK
      have HC0 : Hid (∀ W, Below w.heap.size w W → Calls Try.prog 126 #[.slice A0 n0 c0, .string nm] W fun e w' => e = .returned (.agg #[.string xn, .int .i64 xv]) ∧ Below W.heap.size W w') := fun W hW => by
        have := l27Get_calls A0 n0 c0 s0 nm W (h0.below hW (Nat.le_refl _)) (by omega) HS0.out
        rw [hX] at this
        exact this
      have HC1 : Hid (∀ W, Below w.heap.size w W → Calls Try.prog 126 #[.slice A1 n1 c1, .string nm] W fun e w' => e = .returned (.agg #[.string yn, .int .i64 yv]) ∧ Below W.heap.size W w') := fun W hW => by
        have := l27Get_calls A1 n1 c1 s1 nm W (h1.below hW (Nat.le_refl _)) (by omega) HS1.out
        rw [hY] at this
        exact this
      have HC2 : Hid (∀ W, Below w.heap.size w W → Calls Try.prog 126 #[.slice A2 n2 c2, .string nm] W fun e w' => e = .returned (.agg #[.string zn, .int .i64 zv]) ∧ Below W.heap.size W w') := fun W hW => by
        have := l27Get_calls A2 n2 c2 s2 nm W (h2.below hW (Nat.le_refl _)) (by omega) HS2.out
        rw [hZ] at this
        exact this
      have HCN : Hid (∀ W, Below wo.heap.size wo W → W.cell? ⟨b, off + j, none⟩ = some (.string nm)) := fun W hW => (hW.cell (p := ⟨b, off + j, none⟩) hbl).trans hc
      clear hX hY hZ hc hmem
      have hc := HCN.out _ hb
      go_wp2_with fail
      refine (HC1.out _ hbx).mono ?_
      rintro e w2 ⟨rfl, hb2⟩
      go_wp2_with fail
      obtain ⟨W2, hW2⟩ : ∃ W2, W2 = w2.alloc (.cells #[.string yn, .int .i64 yv] 76) := ⟨_, rfl⟩
      rw [← hW2]
      have A2' : Below w2.heap.size w2 W2 := hW2 ▸ (Below.refl _ _).alloc (Nat.le_refl _) _
      have r2 := hb2.trans (A2'.mono hb2.size)
      have hr2 : W2.heap[w2.heap.size]? = some (.cells #[.string yn, .int .i64 yv] 76 (0, 0)) := by rw [hW2]; exact heap_alloc_new w2 _
      have zz : w2.heap.size < W2.heap.size := by rw [hW2]; simp
      clear hW2
      have q0 : W2.cell? ⟨w2.heap.size, 0, none⟩ = some (.string yn) := by rw [cell_of_row _ _ 0 _ _ _ hr2]; rfl
      have q1 : W2.cell? ⟨w2.heap.size, 1, none⟩ = some (.int .i64 yv) := by rw [cell_of_row _ _ 1 _ _ _ hr2]; rfl
      have hc := HCN.out _ (hb.trans (r2.mono hb.size))
      have hwW := hbx.trans (r2.mono hbx.size)
      have hbW : b < W2.heap.size := Nat.lt_of_lt_of_le hbl (Nat.le_trans hb.size r2.size)
      have HW := hide (And.intro r2 (And.intro hr2 (And.intro hwW hb2.size)))
      clear r2 hr2 A2' hb2 hwW
      have HNO : ∀ rn rv, pickS s0 s1 s2 nm = ⟨rn, rv⟩ → rn.size = 0 → Hid (mrgZ s0 s1 s2 ((namesZ s0 s1 s2).take (j + 1)) = mrgZ s0 s1 s2 ((namesZ s0 s1 s2).take j)) := fun rn rv hp h0 => by
        have h1 := HQ.out.1
        rw [hp] at h1
        have h2 : mrgV s0 s1 s2 nm < 0 := by
          rcases Int.lt_or_le (mrgV s0 s1 s2 nm) 0 with h | h
          · exact h
          · exact absurd h0 (h1.2 h)
        unfold Hid
        rw [HSN.out, mrgF_no h2, List.append_nil]
      have HYES : ∀ rn rv, pickS s0 s1 s2 nm = ⟨rn, rv⟩ → rn.size ≠ 0 → Hid (mrgZ s0 s1 s2 ((namesZ s0 s1 s2).take (j + 1)) = mrgZ s0 s1 s2 ((namesZ s0 s1 s2).take j) ++ [⟨rn, rv⟩]) := fun rn rv hp h0 => by
        have h1 := HQ.out.1
        rw [hp] at h1
        have h2 := h1.1 h0
        have h3 := HQ.out.2 h2
        unfold Hid
        rw [HSN.out, mrgF_yes h2, ← h3, hp]
      have HNN := hide (And.intro HNO HYES)
      clear HNO HYES HQ HSN
      have hzo := hb.size
      rcases pair3 yn xn yv xv with ⟨e1, f1, f2⟩ | ⟨e1, f1⟩ | ⟨e1, f1, f2⟩
      case inl =>
        have HP : Hid (pickS s0 s1 s2 nm = ⟨zn, zv⟩) := HPK.out.trans (if_pos e1)
        clear e1
        go_region_held3 (fun w' => w'.cell? ⟨w2.heap.size, 0, none⟩ = some (.string yn) ∧ w'.cell? ⟨w2.heap.size, 1, none⟩ = some (.int .i64 yv) ∧ w'.cell? ⟨b, off + j, none⟩ = some (.string nm))
          (first | exact ⟨q0, q1, hc⟩ | exact ⟨(hb3.cell (p := ⟨w2.heap.size, 0, none⟩) zz).trans q0, (hb3.cell (p := ⟨w2.heap.size, 1, none⟩) zz).trans q1, (hb3.cell (p := ⟨b, off + j, none⟩) hbW).trans hc⟩)
          (first | (go_at_call 126; refine (HC0.out _ HW.out.2.2.1.drew).mono ?_; rintro e w3 ⟨rfl, hb3⟩))
        have b3 := (Below.refl W2.heap.size W2).drew.trans hb3
        have r3 := HW.out.1.trans (b3.mono HW.out.1.size)
        have hc := HCN.out _ (hb.trans (r3.mono hb.size))
        have HR3 := hide (And.intro b3 r3)
        clear b3 r3 hb3
        go_wp2_with fail
        refine (HC2.out _ (hbx.trans (HR3.out.2.mono hbx.size))).mono ?_
        rintro e w4 ⟨rfl, hb4⟩
        have hk4 := (hb4.block w2.heap.size (Nat.lt_of_lt_of_le zz HR3.out.1.size)).trans ((HR3.out.1.block w2.heap.size zz).trans HW.out.2.1)
        have p0 : w4.cell? ⟨w2.heap.size, 0, none⟩ = some (.string yn) := by rw [cell_of_row _ _ 0 _ _ _ hk4]; rfl
        have p1 : w4.cell? ⟨w2.heap.size, 1, none⟩ = some (.int .i64 yv) := by rw [cell_of_row _ _ 1 _ _ _ hk4]; rfl
        have fz0 := frozen_of_row w4 w2.heap.size 0 _ _ hk4
        have fz1 := frozen_of_row w4 w2.heap.size 1 _ _ hk4
        have r4 := HR3.out.2.trans (hb4.mono HR3.out.2.size)
        have r5 : Below wr.heap.size wr ((w4.setCell ⟨w2.heap.size, 0, none⟩ (.string zn)).setCell ⟨w2.heap.size, 1, none⟩ (.int .i64 zv)) := (r4.setCell HW.out.2.2.2 _).setCell HW.out.2.2.2 _
        have R5 := hide r5
        have hz5 : wr.heap.size ≤ w4.heap.size := r4.size
        have ho2 := hide (own_below HO.out r5 (Nat.le_refl _))
        have hbz := hide (hb.trans (r5.mono hb.size))
        clear hk4 r4 r5 hb4
        by_cases he : zn.size = 0
        · have HN := HNN.out.1 zn zv HP.out he
          have em := emp_yes he
          clear he
          go_wp2
          go_roundw
          case rel => exact ⟨j + 1, k, by omega, by go_num, by omega, by rw [HN.out]; exact ho2.out, by unfold Hid; rw [HN.out]; exact HK.out, hbz.out⟩
          case measure => simp [intOf]; omega
        · have HN := HNN.out.2 zn zv HP.out he
          have em := emp_no he
          clear he
          go_wp2_with (at_builtin; refine appSetting rfl _ _ rfl wo.heap.size u9 k (mrgZ s0 s1 s2 ((namesZ s0 s1 s2).take j)) ⟨zn, zv⟩ rfl ho2.out (by first | rfl | (simp; rfl)) (by omega) (by simp; omega) ?_; intro v5 w5 hown5 hb5 hz6)
          go_roundw
          case rel => exact ⟨j + 1, k + 1, by omega, by go_num, by omega, by rw [HN.out]; exact hown5, by unfold Hid; rw [HN.out, List.length_append, HK.out]; rfl, hbz.out.trans hb5⟩
          case measure => simp [intOf]; omega
      all_goals
        have HP : Hid (pickS s0 s1 s2 nm = ⟨yn, yv⟩) := HPK.out.trans (if_neg e1)
        clear e1
        go_region_held3 (fun w' => w'.cell? ⟨w2.heap.size, 0, none⟩ = some (.string yn) ∧ w'.cell? ⟨w2.heap.size, 1, none⟩ = some (.int .i64 yv) ∧ w'.cell? ⟨b, off + j, none⟩ = some (.string nm))
          (first | exact ⟨q0, q1, hc⟩ | exact ⟨(hb3.cell (p := ⟨w2.heap.size, 0, none⟩) zz).trans q0, (hb3.cell (p := ⟨w2.heap.size, 1, none⟩) zz).trans q1, (hb3.cell (p := ⟨b, off + j, none⟩) hbW).trans hc⟩)
          (first | (go_at_call 126; refine (HC0.out _ HW.out.2.2.1.drew).mono ?_; rintro e w3 ⟨rfl, hb3⟩))
        have b3 := (Below.refl W2.heap.size W2).drew.trans hb3
        have r3 := HW.out.1.trans (b3.mono HW.out.1.size)
        have p0 := (b3.cell (p := ⟨w2.heap.size, 0, none⟩) zz).trans q0
        have p1 := (b3.cell (p := ⟨w2.heap.size, 1, none⟩) zz).trans q1
        have hz5 : wr.heap.size ≤ w3.heap.size := r3.size
        have ho2 := hide (own_below HO.out r3 (Nat.le_refl _))
        have hbz := hide (hb.trans (r3.mono hb.size))
        clear b3 r3 hb3
        by_cases he : yn.size = 0
        · have HN := HNN.out.1 yn yv HP.out he
          have em := emp_yes he
          clear he
          go_wp2
          go_roundw
          case rel => exact ⟨j + 1, k, by omega, by go_num, by omega, by rw [HN.out]; exact ho2.out, by unfold Hid; rw [HN.out]; exact HK.out, hbz.out⟩
          case measure => simp [intOf]; omega
        · have HN := HNN.out.2 yn yv HP.out he
          have em := emp_no he
          clear he
          go_wp2_with (at_builtin; refine appSetting rfl _ _ rfl wo.heap.size u9 k (mrgZ s0 s1 s2 ((namesZ s0 s1 s2).take j)) ⟨yn, yv⟩ rfl ho2.out (by first | rfl | (simp; rfl)) (by omega) (by first | omega | (simp; omega)) ?_; intro v5 w5 hown5 hb5 hz6)
          go_roundw
          case rel => exact ⟨j + 1, k + 1, by omega, by go_num, by omega, by rw [HN.out]; exact hown5, by unfold Hid; rw [HN.out, List.length_append, HK.out]; rfl, hbz.out.trans hb5⟩
          case measure => simp [intOf]; omega
    · have hjn : j = m := by omega
      have HE : Hid (mrgZ s0 s1 s2 (namesZ s0 s1 s2) = mrgZ s0 s1 s2 ((namesZ s0 s1 s2).take j)) := by unfold Hid; rw [List.take_of_length_le (by rw [HM.out]; omega)]
      have HKL : Hid ((mrgZ s0 s1 s2 (namesZ s0 s1 s2)).length = k) := by unfold Hid; rw [HE.out]; exact HK.out
      obtain ⟨A7, c7, rfl⟩ := own_slice HO.out
      by_cases h24 : k ≤ 24
      · have HX := hide (mrg_ok HCF.out (by rw [HKL.out]; exact h24))
        have hown' : wr.ownsRow w.heap.size 76 2 (.slice A7 k c7) k (cK kSetting (mrgZ s0 s1 s2 (namesZ s0 s1 s2))) := by rw [HE.out]; exact own_mono HO.out hb1.size
        have HOW := hide hown'
        clear hown'
        go_wp2
        go_ret2
        refine ⟨_, _, _, ret_two rfl (congrArg (Value.int .i64) HX.out.1.symm), ?_, by omega, hbx⟩
        rw [HX.out.2]
        exact FrK.of_own (K := kSetting) HOW.out HKL.out HZF.out
      · have HX := hide (mrg_full HCF.out (by rw [HKL.out]; omega))
        go_wp2
        go_ret2
        refine ⟨none, 0, 0, ret_two rfl (congrArg (Value.int .i64) HX.out.1.symm), ?_, by omega, hbx⟩
        rw [HX.out.2]
        exact FrK.nil

end Go.Proofs.Ytmcdafaadodekaa

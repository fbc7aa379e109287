/- impl.ApplyChanges. -/
import Derived.Test.YtmpfkmbfbeejhaaDoorChanged
import Derived.Test.YtmpfkmbfbeejhaaDoorChgAll
import Derived.Test.YtmpfkmbfbeejhaaDoorClone
namespace Go.Proofs.YtmpfkmbfbeejhaaDoor
open Go.RowKit
set_option linter.unusedVariables false

theorem fine_chg {ss : List SetZ} {cz : ChangeZ} (h : ∀ s ∈ ss, s.fine) (hc : kChange.fine cz) : ∀ s ∈ chgL ss cz, s.fine := by
  intro s hs
  unfold chgL at hs
  split at hs
  · rcases mem_setZ hs with rfl | hs
    · exact ⟨hc.2.1, hc.2.2⟩
    · exact h s hs
  · exact h s (List.mem_filter.1 hs).1
theorem apC_bad {ss : List SetZ} {cs : List ChangeZ} (h : (stateB ss && cs.all chgB) = false) : apC ss cs = 1 ∧ apV ss cs = [] := by unfold apC apV; rw [h]; exact ⟨rfl, rfl⟩
theorem apC_ok {ss : List SetZ} {cs : List ChangeZ} (h : (stateB ss && cs.all chgB) = true) : apC ss cs = (appZ ss cs).2 ∧ apV ss cs = (appZ ss cs).1 := by unfold apC apV; rw [h]; exact ⟨rfl, rfl⟩

set_option maxRecDepth 100000 in
set_option maxHeartbeats 4000000 in
theorem implApplyChanges_calls (A B : Option Addr) (n m c d : Nat) (ss : List SetZ) (cs : List ChangeZ) (w : World) (h : RdS w A n ss) (h' : RdK kChange w B m cs) (hn : n ≤ 1048576) (hm : m ≤ 1048576) :
    Calls Tryd.prog 9 #[.slice A n c, .slice B m d] w fun e w' => ∃ A' n' c', e = .returned (.tuple #[.slice A' n' c', .int .i64 (apC ss cs)]) ∧ FrK kSetting w' w.heap.size w'.heap.size 57 A' n' (apV ss cs) ∧ n' ≤ 1048576 ∧ Below w.heap.size w w' := by
  have HL := hide h.2.1
  have HL' := hide h'.2.1
  rcases b_cases (stateB ss) with hst | hst
  · obtain ⟨hc1, hc2⟩ := apC_bad (ss := ss) (cs := cs) (by rw [hst]; rfl)
    have HC := hide hc1
    have HV := hide hc2
    have HST := hide hst
    clear hc1 hc2 hst
    go_enter Tryd.func9, Tryd.ntmps9
    go_wp2_with fail
    refine (implValidState_calls _ _ _ _ _ h hn).mono ?_
    rintro e w1 ⟨rfl, hb1⟩
    rw [HST.out]
    go_wp2
    go_ret2
    exact ⟨none, 0, 0, ret_two rfl (congrArg (Value.int .i64) HC.out.symm), by rw [HV.out]; exact FrK.nil, by omega, hb1⟩
  have hs24 := state_len hst
  rw [HL.out] at hs24
  have hsort := state_sorted hst
  have HST := hide hst
  go_enter Tryd.func9, Tryd.ntmps9
  go_wp2_with fail
  refine (implValidState_calls _ _ _ _ _ h hn).mono ?_
  rintro e w1 ⟨rfl, hb1⟩
  rw [HST.out]
  go_wp2_with fail
  refine (containsChg_calls _ _ _ cs _ (fun c => !chgB c) _ (h'.below hb1 (Nat.le_refl _)) hm Tryd.call28 (fun k v nm w hs => applyClos_calls k v nm w hs)).mono ?_
  rintro e w2 ⟨rfl, hb2⟩
  have hB2 := hb1.trans (hb2.mono hb1.size)
  rw [any_chgB]
  rcases b_cases (cs.all chgB) with hall | hall
  · obtain ⟨hc1, hc2⟩ := apC_bad (ss := ss) (cs := cs) (by rw [hall, Bool.and_false])
    have HC := hide hc1
    have HV := hide hc2
    rw [hall]
    clear hc1 hc2 hall hst
    go_wp2
    go_ret2
    exact ⟨none, 0, 0, ret_two rfl (congrArg (Value.int .i64) HC.out.symm), by rw [HV.out]; exact FrK.nil, by omega, hB2⟩
  obtain ⟨hc1, hc2⟩ := apC_ok (ss := ss) (cs := cs) (by rw [hst, hall]; rfl)
  have HC := hide hc1
  have HV := hide hc2
  rw [hall]
  clear hc1 hc2 hall hst
  go_wp2_with fail
  refine (cloneS_calls _ _ _ ss _ (h.below hB2 (Nat.le_refl _)) hn).mono ?_
  rintro e w3 ⟨A3, c3, rfl, hown3, hb3⟩
  have hB3 := hB2.trans (hb3.mono hB2.size)
  have hm3 := own_mono hown3 hB2.size
  have hfine : ∀ s ∈ ss, s.fine := h.2.2
  go_wp2_with fail
  go_loopw [6, 22] (fun v i wr => ∃ (k n' c' : Nat) (A' : Option Addr) (cur : List SetZ), k ≤ m ∧ i = .int .i64 k ∧ v = .slice A' n' c' ∧ n' ≤ 24 ∧ cur.length = n' ∧ wr.ownsRow w.heap.size 57 2 (.slice A' n' c') n' (cK kSetting cur) ∧ Hid (SortedZ cur ∧ (∀ s ∈ cur, s.fine) ∧ appZ ss cs = appZ cur (cs.drop k)) ∧ Below w.heap.size w wr) (fun _ i _ => m - (intOf i).toNat)
  case atStart => exact ⟨0, n, c3, A3, ss, by omega, rfl, rfl, hs24, HL.out, hm3, ⟨hsort, hfine, rfl⟩, hB3⟩
  case round =>
    clear hown3 hm3
    obtain ⟨k, n', c', A', cur, hk, rfl, rfl, hn', hl', hown, HI, hb⟩ := hrel
    obtain ⟨wo, rfl⟩ : ∃ wo : World, wo = wr := ⟨_, rfl⟩
    by_cases hlt : k < m
    · obtain ⟨b, off, f0, f1, f2, rfl, hbl, hx, hc0, hc1, hc2, hs0, hs1, hs2⟩ := (h'.below hb (Nat.le_refl _)).atChange hlt
      have hoa := own_below hown ((Below.refl wo.heap.size wo).alloc (Nat.le_refl _) (.cells #[.int .i64 f0, .string f1, .int .i64 f2] 60)) (Nat.le_refl _)
      have HCH := hide (changed_calls A' n' c' w.heap.size cur f0 f2 f1 _ hoa hl' HI.out.2.1 hn' HI.out.1 (by have := hb.size; simp; omega))
      have hba : Below w.heap.size w (wo.alloc (.cells #[.int .i64 f0, .string f1, .int .i64 f2] 60)) := hb.alloc hb.size _
      have HAP := hide (appZ_drop (ss := cur) hx.out)
      clear hown hoa
      go_wp2_with fail
      refine HCH.out.mono ?_
      rintro e w4 ⟨A4, n4, c4, rfl, hpost, hb4⟩
      have hB4 := hba.trans hb4
      by_cases hz : chgC cur ⟨f0, f1, f2⟩ = 0
      · obtain ⟨ho4, hn4⟩ := hpost hz
        have hl4 : (chgL cur ⟨f0, f1, f2⟩).length = n4 := by
          have := ho4.1
          rw [cK_len] at this
          have hks : kSetting.size = 2 := rfl
          rw [hks] at this
          omega
        have HI4 : Hid (SortedZ (chgL cur ⟨f0, f1, f2⟩) ∧ (∀ s ∈ chgL cur ⟨f0, f1, f2⟩, s.fine) ∧ appZ ss cs = appZ (chgL cur ⟨f0, f1, f2⟩) (cs.drop (k + 1))) :=
          ⟨sorted_chg HI.out.1, fine_chg HI.out.2.1 ⟨⟨hs0, hs1⟩, hs2.1, hs2.2⟩, by rw [HI.out.2.2, HAP.out, if_pos hz]⟩
        have HO4 := hide ho4
        rw [hz]
        clear ho4 hpost hz
        go_wp2
        go_roundw
        case rel => exact ⟨k + 1, n4, c4, A4, _, by omega, by go_num, rfl, hn4, hl4, HO4.out, HI4, hB4⟩
        case measure => simp [intOf]; omega
      · have hz0 : (chgC cur ⟨f0, f1, f2⟩ != 0) = true := by simpa using hz
        have HR : Hid (appZ ss cs = ([], chgC cur ⟨f0, f1, f2⟩)) := by
          unfold Hid
          rw [HI.out.2.2, HAP.out, if_neg hz]
        clear hpost hz
        go_wp2
        go_ret2
        exact ⟨none, 0, 0, ret_two rfl (congrArg (Value.int .i64) (by rw [HC.out, HR.out])), by rw [HV.out, HR.out]; exact FrK.nil, by omega, hB4⟩
    · have hkm : k = m := by omega
      have HR : Hid (appZ ss cs = (cur, 0)) := by
        unfold Hid
        rw [HI.out.2.2, List.drop_eq_nil_of_le (by rw [HL'.out]; omega), appZ]
      have HO := hide hown
      clear hown
      go_wp2
      go_ret2
      exact ⟨_, _, _, ret_two rfl (congrArg (Value.int .i64) (by rw [HC.out, HR.out])), by rw [HV.out, HR.out]; exact FrK.of_own (K := kSetting) HO.out hl' HI.out.2.1, by omega, hb⟩

end Go.Proofs.YtmpfkmbfbeejhaaDoor

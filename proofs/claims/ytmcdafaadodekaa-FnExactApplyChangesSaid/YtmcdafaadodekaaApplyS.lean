/- spec.ApplyChanges. -/
import Derived.Test.YtmcdafaadodekaaApply
import Derived.Test.YtmcdafaadodekaaNamesS
import Derived.Deep.Cut
namespace Go.Proofs.Ytmcdafaadodekaa
open Go.RowKit
set_option linter.unusedVariables false

theorem rdS_take {w : World} {b off n m : Nat} {ss : List SetZ} (h : Rd w (some ⟨b, off, none⟩) n 2 (cK kSetting ss)) (hl : ss.length = n) (hm : m ≤ n) : Rd w (some ⟨b, off, none⟩) m 2 (cK kSetting (ss.take m)) := by
  refine ⟨by rw [cK_len]; simp [kSetting]; omega, fun h0 => ?_⟩
  obtain ⟨b', off', e, hb, hc⟩ := h.2 (by omega)
  refine ⟨b', off', e, hb, fun j u hj => hc j u ?_⟩
  have e1 : cK kSetting ss = cK kSetting (ss.take m) ++ cK kSetting (ss.drop m) := by rw [← cK_append, List.take_append_drop]
  rw [e1, List.getElem?_append_left (List.getElem?_eq_some_iff.1 hj).1]
  exact hj
theorem rdS_drop {w : World} {b off n m : Nat} {ss : List SetZ} (h : Rd w (some ⟨b, off, none⟩) n 2 (cK kSetting ss)) (hl : ss.length = n) (hm : m ≤ n) : Rd w (some ⟨b, off + m * 2, none⟩) (n - m) 2 (cK kSetting (ss.drop m)) := by
  refine ⟨by rw [cK_len]; simp [kSetting]; omega, fun h0 => ?_⟩
  obtain ⟨b', off', e, hb, hc⟩ := h.2 (by omega)
  obtain ⟨rfl, rfl⟩ : b = b' ∧ off = off' := by simpa using e
  refine ⟨b, _, rfl, hb, fun j u hj => ?_⟩
  rw [Nat.add_assoc]
  refine hc (m * 2 + j) u ?_
  have e1 : cK kSetting ss = cK kSetting (ss.take m) ++ cK kSetting (ss.drop m) := by rw [← cK_append, List.take_append_drop]
  have e2 : (cK kSetting (ss.take m)).length = m * 2 := by rw [cK_len]; simp [kSetting]; omega
  rw [e1, List.getElem?_append_right (by omega), e2, show m * 2 + j - m * 2 = j by omega]
  exact hj

set_option maxRecDepth 100000 in
set_option maxHeartbeats 8000000 in
theorem specApplyChanges_calls (A B : Option Addr) (n m c d : Nat) (ss : List SetZ) (cs : List ChangeZ) (w : World) (h : RdS w A n ss) (h' : RdK kChange w B m cs) (hn : n ≤ 1048576) (hm : m ≤ 1048576) :
    Calls Try.prog 47 #[.slice A n c, .slice B m d] w fun e w' => ∃ A' n' c', e = .returned (.tuple #[.slice A' n' c', .int .i64 (apC ss cs)]) ∧ FrK kSetting w' w.heap.size w'.heap.size 76 A' n' (apV ss cs) ∧ n' ≤ 1048576 ∧ Below w.heap.size w w' := by
  have HL := hide h.2.1
  have HL' := hide h'.2.1
  rcases b_cases (stateB ss) with hst | hst
  · obtain ⟨hc1, hc2⟩ := apC_bad (ss := ss) (cs := cs) (by rw [hst]; rfl)
    have HC := hide hc1
    have HV := hide hc2
    have HST := hide hst
    clear hc1 hc2 hst
    go_enter Try.func47, Try.ntmps47
    go_wp2_with fail
    refine (l27State_calls _ _ _ _ _ h hn).mono ?_
    rintro e w1 ⟨rfl, j1, rfl⟩
    rw [HST.out]
    go_wp2
    go_ret2
    exact ⟨none, 0, 0, ret_two rfl (congrArg (Value.int .i64) HC.out.symm), by rw [HV.out]; exact FrK.nil, by omega, below_drewN (Below.refl _ _) _⟩
  have hs24 := state_len hst
  rw [HL.out] at hs24
  have hsort := state_sorted hst
  have HST := hide hst
  go_enter Try.func47, Try.ntmps47
  go_wp2_with fail
  refine (l27State_calls _ _ _ _ _ h hn).mono ?_
  rintro e w1 ⟨rfl, j1, rfl⟩
  rw [HST.out]
  clear hst
  go_wp2_with fail
  go_loopw [6] (fun i wr => ∃ k : Nat, k ≤ m ∧ i = .int .i64 k ∧ Hid ((cs.take k).all chgB = true) ∧ wr = w.drewN j1) (fun i _ => m - (intOf i).toNat)
  case atStart => exact ⟨0, by omega, rfl, by simp [Hid], rfl⟩
  case round =>
    obtain ⟨k, hk, rfl, HA, rfl⟩ := hrel
    by_cases hlt : k < m
    · obtain ⟨b, off, f0, f1, f2, rfl, hbl, hx, hc0, hc1, hc2, hs0, hs1, hs2⟩ := h'.atChange hlt
      rcases b_cases (chgB ⟨f0, f1, f2⟩) with hch | hch
      · have HCH := hide hch
        obtain ⟨hca, hcv⟩ := apC_bad (ss := ss) (cs := cs) (by
          rw [Bool.and_eq_false_iff]
          right
          rw [List.all_eq_false]
          exact ⟨_, List.mem_of_getElem? hx.out, by rw [hch]; simp⟩)
        have HC := hide hca
        have HV := hide hcv
        clear hca hcv hch
        go_wp2_with fail
        refine (l27Change_calls b (off + k * 3) f0 f2 f1 (w.drewN j1) hc0 hc1 hc2 hs2.1).mono ?_
        rintro e w' ⟨rfl, rfl⟩
        rw [HCH.out]
        go_wp2
        go_ret2
        exact ⟨none, 0, 0, ret_two rfl (congrArg (Value.int .i64) HC.out.symm), by rw [HV.out]; exact FrK.nil, by omega, below_drewN (Below.refl _ _) _⟩
      · have HCH := hide hch
        have HA2 : Hid ((cs.take (k + 1)).all chgB = true) := by
          unfold Hid
          rw [take_snoc hx.out, List.all_append, HA.out]
          simp [hch]
        clear hch
        go_wp2_with fail
        refine (l27Change_calls b (off + k * 3) f0 f2 f1 (w.drewN j1) hc0 hc1 hc2 hs2.1).mono ?_
        rintro e w' ⟨rfl, rfl⟩
        rw [HCH.out]
        go_wp2
        go_roundw
        case rel => exact ⟨k + 1, by omega, by go_num, HA2, trivial⟩
        case measure => simp [intOf]; omega
    have hkm : k = m := by omega
    subst hkm
    have hall : cs.all chgB = true := by
      have := HA.out
      rwa [List.take_of_length_le (by rw [HL'.out]; omega)] at this
    obtain ⟨hca, hcv⟩ := apC_ok (ss := ss) (cs := cs) (by rw [HST.out, hall]; rfl)
    have HC := hide hca
    have HV := hide hcv
    clear hca hcv hall
    have hfine : ∀ s ∈ ss, s.fine := h.2.2
    have hlit := World.ownsRow_lit (base := w.heap.size) (e := 76) (size := 2) (w.drewN j1) #[] 0 (Nat.le_refl _) (by simp) rfl
    have hba : Below w.heap.size w ((w.drewN j1).alloc (.cells #[] 76)) := (below_drewN (Below.refl _ _) _).alloc (Nat.le_refl _) _
    have HO := hide (And.intro hlit (h.1.below hba (Nat.le_refl _)))
    clear hlit
    go_wp2_with (at_builtin; refine appsSetting rfl _ _ rfl w.heap.size (.slice (some ⟨w.heap.size, 0, none⟩) 0 0) 0 [] rfl HO.out.1 A n c ss rfl HO.out.2 (by omega) (by simp) ?_; intro v3 w3 hown3 hb3 hz3)
    rw [Nat.zero_add, List.nil_append] at hown3
    obtain ⟨A3, c3, rfl⟩ := own_slice hown3
    have hB3 := hba.trans hb3
    go_loopw [7, 8] (fun v i wr => ∃ (q n' c' : Nat) (A' : Option Addr) (cur : List SetZ), q ≤ k ∧ i = .int .i64 q ∧ v = .slice A' n' c' ∧ n' ≤ 24 ∧ cur.length = n' ∧ wr.ownsRow w.heap.size 76 2 (.slice A' n' c') n' (cK kSetting cur) ∧ Hid (SortedZ cur ∧ (∀ s ∈ cur, s.fine) ∧ appZ ss cs = appZ cur (cs.drop q)) ∧ Below w.heap.size w wr) (fun _ i _ => k - (intOf i).toNat)
    case atStart => exact ⟨0, n, c3, A3, ss, by omega, rfl, rfl, hs24, HL.out, hown3, ⟨hsort, hfine, rfl⟩, hB3⟩
    case round =>
      clear hown3
      obtain ⟨q, n', c', A', cur, hq, rfl, rfl, hn', hl', hown, HI, hb⟩ := hrel
      obtain ⟨wo, rfl⟩ : ∃ wo : World, wo = wr := ⟨_, rfl⟩
      by_cases hlt : q < k
      · obtain ⟨b, off, f0, f1, f2, rfl, hbl, hx, hc0, hc1, hc2, hs0, hs1, hs2⟩ := (h'.below hb (Nat.le_refl _)).atChange hlt
        obtain ⟨W0, hW0⟩ : ∃ W0, W0 = wo.alloc (.cells #[.string f1, .int .i64 f2] 76) := ⟨_, rfl⟩
        have hBW : Below w.heap.size wo W0 := hW0 ▸ (Below.refl _ _).alloc hb.size _
        have hBW2 : Below wo.heap.size wo W0 := hW0 ▸ (Below.refl _ _).alloc (Nat.le_refl _) _
        have z0 : W0.heap.size = wo.heap.size + 1 := by rw [hW0]; simp
        have e1 : W0.cell? ⟨wo.heap.size, 0, none⟩ = some (.string f1) := by rw [hW0]; simp [go_sem]
        have e2 : W0.cell? ⟨wo.heap.size, 1, none⟩ = some (.int .i64 f2) := by rw [hW0]; simp [go_sem]
        have hk0 := (hBW2.cell (p := ⟨b, off + q * 3, none⟩) hbl).trans hc0
        have hoa := own_below hown hBW2 (Nat.le_refl _)
        have hrd := own_state hoa hl' HI.out.2.1
        have HAP := hide (appZ_drop (ss := cur) hx.out)
        have hBa := hb.trans hBW
        have HSET := hide (l27Set_calls A' n' c' cur f1 f2 W0 hrd (by omega) HI.out.1)
        have HAT := hide (l27At_calls A' n' c' cur f1 W0 hrd (by omega))
        clear hown
        go_upto_region 13 with (fail)
        rw [← hW0]
        clear hW0
        by_cases hk1 : f0 = 1
        · subst hk1
          have HCL : Hid (chgL cur ⟨1, f1, f2⟩ = setZ cur ⟨f1, f2⟩) := by unfold Hid chgL; rw [if_pos rfl]
          clear hoa hrd
          go_wp2_with fail
          refine HSET.out.mono ?_
          rintro e w4 ⟨v4, n4, rfl, hown4, hl4, hb4⟩
          obtain ⟨A4, c4, rfl⟩ := own_slice hown4
          have hm4 := own_mono hown4 hBa.size
          have hB4 := hBa.trans (hb4.mono hBa.size)
          by_cases hbig : 24 < n4
          · have hz : chgC cur ⟨1, f1, f2⟩ = 5 := by unfold chgC; rw [if_pos rfl, if_pos (by rw [hl4]; exact hbig)]
            have hbi : (24 : Int) < (n4 : Int) := by omega
            have HR : Hid (appZ ss cs = ([], 5)) := by
              unfold Hid
              rw [HI.out.2.2, HAP.out, if_neg (by rw [hz]; omega), hz]
            clear hown4 hm4 hz
            go_wp2
            go_ret2
            exact ⟨none, 0, 0, ret_two rfl (congrArg (Value.int .i64) (by rw [HC.out, HR.out])), by rw [HV.out, HR.out]; exact FrK.nil, by omega, hB4⟩
          · have hz : chgC cur ⟨1, f1, f2⟩ = 0 := by unfold chgC; rw [if_pos rfl, if_neg (by rw [hl4]; exact hbig)]
            have hbi : ¬ ((24 : Int) < (n4 : Int)) := by omega
            have HI4 : Hid (SortedZ (chgL cur ⟨1, f1, f2⟩) ∧ (∀ s ∈ chgL cur ⟨1, f1, f2⟩, s.fine) ∧ appZ ss cs = appZ (chgL cur ⟨1, f1, f2⟩) (cs.drop (q + 1))) :=
              ⟨sorted_chg HI.out.1, fine_chg HI.out.2.1 ⟨⟨hs0, hs1⟩, hs2.1, hs2.2⟩, by rw [HI.out.2.2, HAP.out, if_pos hz]⟩
            have HO4 := hide hm4
            clear hown4 hm4 hz
            go_wp2
            go_roundw
            case rel => exact ⟨q + 1, n4, c4, A4, _, by omega, by go_num, rfl, by omega, by rw [HCL.out]; exact hl4, by rw [HCL.out]; exact HO4.out, HI4, hB4⟩
            case measure => simp [intOf]; omega
        · have hk1' : (f0 == 1) = false := by simpa using hk1
          go_wp2_with fail
          refine HAT.out.mono ?_
          rintro e w4 ⟨r, rfl, hr, rfl⟩
          rcases hr with ⟨rfl, hnone⟩ | ⟨j, v0, rfl, hj⟩
          · have hz : chgC cur ⟨f0, f1, f2⟩ = 3 := by unfold chgC; rw [if_neg hk1, getZ_none.2 hnone]
            have HR : Hid (appZ ss cs = ([], 3)) := by
              unfold Hid
              rw [HI.out.2.2, HAP.out, if_neg (by rw [hz]; omega), hz]
            clear hz hnone hoa hrd
            go_wp2
            go_ret2
            exact ⟨none, 0, 0, ret_two rfl (congrArg (Value.int .i64) (by rw [HC.out, HR.out])), by rw [HV.out, HR.out]; exact FrK.nil, by omega, hBa⟩
          · obtain ⟨hjl, hje⟩ := List.getElem?_eq_some_iff.1 hj
            have hjn : j < n' := by rw [← hl']; exact hjl
            have hg := getZ_at HI.out.1 hj
            obtain ⟨g, c5, hA2⟩ := own_addr2 hoa (by omega)
            obtain ⟨rfl, rfl⟩ : A' = some ⟨g, 0, none⟩ ∧ c' = c5 := by simpa using hA2
            obtain ⟨b5, off5, s5, v5, hA5, hbl5, hx5, h51, h52, _, _, _⟩ := hrd.at hjn
            obtain ⟨rfl, rfl⟩ : g = b5 ∧ 0 = off5 := by simpa using hA5
            obtain ⟨rfl, rfl⟩ : f1 = s5 ∧ v0 = v5 := by
              have := hj.symm.trans hx5.out
              simpa using this
            have hcap := own_cap hoa
            have HRD := hide hrd.1
            have HDEL := hide (idx_less HI.out.1 hj)
            rw [Nat.zero_add] at h51 h52
            have q1 := (str_eq (rfl : f1 = f1)).1
            clear hA2 hA5 hx5 hj hje hoa hrd
            by_cases hv : v0 = f2
            · subst hv
              have hz : chgC cur ⟨f0, f1, v0⟩ = 0 := by unfold chgC; rw [if_neg hk1, hg]; simp
              have HI4 : Hid (SortedZ (chgL cur ⟨f0, f1, v0⟩) ∧ (∀ s ∈ chgL cur ⟨f0, f1, v0⟩, s.fine) ∧ appZ ss cs = appZ (chgL cur ⟨f0, f1, v0⟩) (cs.drop (q + 1))) :=
                ⟨sorted_chg HI.out.1, fine_chg HI.out.2.1 ⟨⟨hs0, hs1⟩, hs2.1, hs2.2⟩, by rw [HI.out.2.2, HAP.out, if_pos hz]⟩
              have HCL : Hid (chgL cur ⟨f0, f1, v0⟩ = cur.take j ++ cur.drop (j + 1)) := by
                unfold Hid chgL
                rw [if_neg hk1]
                exact HDEL.out
              clear hz hg
              have hjc1 : (j : Int) ≤ (c' : Int) := by omega
              have hjc2 : ¬ (c' = j) := by omega
              clear z0
              go_wp2
              go_quiet (fail)
              go_upto_region 23 with (at_builtin; refine appsSetting rfl _ _ rfl W0.heap.size (.slice (some ⟨W0.heap.size, 0, none⟩) 0 0) 0 [] rfl (World.ownsRow_lit (base := W0.heap.size) (e := 76) (size := 2) _ #[] 0 (by simp) (by simp) rfl) (some ⟨g, 0, none⟩) j c' (cur.take j) rfl (Rd.alloc (Rd.drewN (rdS_take HRD.out hl' (by omega)) _) _) (by omega) (by simp) ?_; intro v6 w6 hown6 hb6 hz6)
              rw [Nat.zero_add, List.nil_append] at hown6
              have hb06 : Below W0.heap.size W0 w6 := ((below_drewN (Below.refl _ _) _).alloc (Nat.le_refl _) _).trans hb6
              have hrd6 := HRD.out.below hb06 (Nat.le_refl _)
              have hz06 := hb06.size
              by_cases hcj : c' = j + 1
              · obtain rfl : n' = j + 1 := by omega
                subst hcj
                have hdr : cur.drop (j + 1) = [] := List.drop_eq_nil_of_le (by omega)
                go_wp2_with (at_builtin; refine appsSetting rfl _ _ rfl W0.heap.size v6 j (cur.take j) rfl hown6 (some ⟨g, 0, none⟩) 0 0 [] (by first | rfl | (simp; rfl) | simp) Rd.nil (by omega) (by omega) ?_; intro v7 w7 hown7 hb7 hz7)
                rw [← hdr] at hown7
                have hB7 : Below w.heap.size w w7 := hBa.trans (((hb06.trans hb7)).mono hBa.size)
                have hm7 := own_mono hown7 (show w.heap.size ≤ W0.heap.size from hBa.size)
                obtain ⟨A7, c7, rfl⟩ := own_slice hm7
                have hl7 : (chgL cur ⟨f0, f1, v0⟩).length = (j + 0) := by rw [HCL.out, List.length_append, List.length_take, List.length_drop]; omega
                have HO7 := hide hm7
                clear hown7 hm7
                go_wp2
                go_roundw
                case rel => exact ⟨q + 1, (j + 0), c7, A7, _, by omega, by go_num, rfl, by omega, hl7, by rw [HCL.out]; exact HO7.out, HI4, hB7⟩
                case measure => simp [intOf]; omega
              · have hd6 := rdS_drop (m := j + 1) hrd6 hl' (by omega)
                rw [Nat.zero_add] at hd6
                go_wp2_with (at_builtin; refine appsSetting rfl _ _ rfl W0.heap.size v6 j (cur.take j) rfl hown6 (some ⟨g, (j + 1) * 2, none⟩) (n' - (j + 1)) (c' - (j + 1)) (cur.drop (j + 1)) rfl hd6 (by omega) (by omega) ?_; intro v7 w7 hown7 hb7 hz7)
                have hB7 : Below w.heap.size w w7 := hBa.trans (((hb06.trans hb7)).mono hBa.size)
                have hm7 := own_mono hown7 (show w.heap.size ≤ W0.heap.size from hBa.size)
                obtain ⟨A7, c7, rfl⟩ := own_slice hm7
                have hl7 : (chgL cur ⟨f0, f1, v0⟩).length = (j + (n' - (j + 1))) := by rw [HCL.out, List.length_append, List.length_take, List.length_drop]; omega
                have HO7 := hide hm7
                clear hown7 hm7
                go_wp2
                go_roundw
                case rel => exact ⟨q + 1, (j + (n' - (j + 1))), c7, A7, _, by omega, by go_num, rfl, by omega, hl7, by rw [HCL.out]; exact HO7.out, HI4, hB7⟩
                case measure => simp [intOf]; omega
            · have hvv : (v0 == f2) = false := by simpa using hv
              have hz : chgC cur ⟨f0, f1, f2⟩ = 6 := by unfold chgC; rw [if_neg hk1, hg]; simp [hv]
              have HR : Hid (appZ ss cs = ([], 6)) := by
                unfold Hid
                rw [HI.out.2.2, HAP.out, if_neg (by rw [hz]; omega), hz]
              clear hz hg
              go_wp2
              go_quiet (fail)
              go_wp2
              go_ret2
              exact ⟨none, 0, 0, ret_two rfl (congrArg (Value.int .i64) (by rw [HC.out, HR.out])), by rw [HV.out, HR.out]; exact FrK.nil, by omega, below_drewN hBa _⟩
      · have hqk : q = k := by omega
        have HR : Hid (appZ ss cs = (cur, 0)) := by
          unfold Hid
          rw [HI.out.2.2, List.drop_eq_nil_of_le (by rw [HL'.out]; omega), appZ]
        have HO := hide hown
        clear hown
        go_wp2
        go_ret2
        exact ⟨_, _, _, ret_two rfl (congrArg (Value.int .i64) (by rw [HC.out, HR.out])), by rw [HV.out, HR.out]; exact FrK.of_own (K := kSetting) HO.out hl' HI.out.2.1, by omega, hb⟩

end Go.Proofs.Ytmcdafaadodekaa

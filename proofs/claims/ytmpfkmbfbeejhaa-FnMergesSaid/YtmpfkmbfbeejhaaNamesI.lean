/- allNames and conflictsOf of the program. -/
import Derived.Test.YtmpfkmbfbeejhaaConcat
import Derived.Test.YtmpfkmbfbeejhaaSortB
import Derived.Test.YtmpfkmbfbeejhaaMrgS
namespace Go.Proofs.Ytmpfkmbfbeejhaa
open Go.RowKit
set_option linter.unusedVariables false

theorem mem_names {ss : List SetZ} {nm : ByteArray} : nm ∈ ss.map SetZ.name ↔ hasZ ss nm = true := by
  rw [hasZ_iff, List.mem_map]
theorem has_append {xs ys : List SetZ} {nm : ByteArray} : hasZ (xs ++ ys) nm = (hasZ xs nm || hasZ ys nm) := by simp [hasZ]

set_option maxHeartbeats 1000000 in
theorem allNames_calls (A : Option Addr) (n c : Nat) (rs : List StC) (s0 s1 s2 : List SetZ) (w : World) (h : RdSS w A n rs) (hn : n ≤ 100) (h24 : ∀ r ∈ rs, r.n ≤ 24) (hall : allS rs = s0 ++ s1 ++ s2) (hf : ∀ s ∈ allS rs, s.fine) :
    Calls Try.prog 63 #[.slice A n c] w (NamPost (namesZ s0 s1 s2) w) := by
  have HC := hide (concatS_calls A n c rs w h hn h24)
  have HA := hide hall
  have HF := hide hf
  have hl : rs.length = n := h.2.1
  have HL := hide hl
  clear hall hf h h24 hl
  go_enter Try.func63, Try.ntmps63
  go_wp2_with fail
  refine HC.out.mono ?_
  clear HC
  rintro e w1 ⟨v1, m, rfl, hown1, hm24, hm, hb1⟩
  rw [HL.out] at hm24
  have HM := hide hm
  obtain ⟨A5, c5, rfl⟩ := own_slice hown1
  have HR := hide (own_state hown1 hm HF.out)
  clear hown1 hm
  have hown0 := World.ownsRow_nil w1 w1.heap.size 9 1
  obtain ⟨wo, rfl⟩ : ∃ wo : World, wo = w1 := ⟨_, rfl⟩
  go_wp2
  go_loopw [3, 5, 9] (fun v p i wr => ∃ (j : Nat), j ≤ m ∧ i = .int .i64 j ∧ wr.ownsRow wo.heap.size 9 1 v j (cK kB (((allS rs).take j).map SetZ.name)) ∧ Below wo.heap.size wo wr) (fun _ _ i _ => m - (intOf i).toNat)
  case atStart => exact ⟨0, Nat.zero_le _, rfl, by simpa [cK] using hown0, Below.refl _ _⟩
  case round =>
    clear hown0
    obtain ⟨j, hj, rfl, hown, hb⟩ := hrel
    have HO := hide hown
    clear hown
    have hsz := hb.size
    by_cases hlt : j < m
    · obtain ⟨b, off, s, v, rfl, hbl, hx, hc, hc2, hs1, hv1, hv2⟩ := (HR.out.below hb (Nat.le_refl _)).at hlt
      have HE : Hid (((allS rs).take (j + 1)).map SetZ.name = ((allS rs).take j).map SetZ.name ++ [s]) := by unfold Hid; rw [take_snoc hx.out]; simp
      have BB := hide ((Below.refl wr.heap.size wr).alloc (Nat.le_refl _) (.cells #[.string s, .int .i64 v] 77))
      have ho2 := hide (own_below HO.out BB.out (Nat.le_refl _))
      go_wp2_with (at_builtin; refine appB rfl _ _ rfl wo.heap.size u3 j _ s rfl ho2.out (by first | rfl | (simp; rfl)) (by omega) (by simp; omega) ?_; intro v4 w4 hown4 hb4 hz4)
      go_roundw
      case rel => exact ⟨j + 1, by omega, by go_num, by rw [HE.out]; exact hown4, (hb.trans (BB.out.mono hb.size)).trans hb4⟩
      case measure => simp [intOf]; omega
    · obtain rfl : j = m := by omega
      have HE : Hid (((allS rs).take j).map SetZ.name = (s0 ++ s1 ++ s2).map SetZ.name) := by unfold Hid; rw [List.take_of_length_le (by rw [HM.out]; omega), HA.out]
      have hown := HO.out
      rw [HE.out] at hown
      obtain ⟨A6, c6, rfl⟩ := own_slice hown
      have HS := hide (sortB_calls A6 j c6 wo.heap.size _ wr hown (by omega) hsz)
      clear hown
      go_wp2_with fail
      refine HS.out.mono ?_
      rintro e w2 ⟨rfl, ys, hown2, hperm, hrise, hb2⟩
      have hbx := hb.trans hb2
      have HCo := hide (compactB_calls A6 j c6 wo.heap.size ys w2 hown2 hrise (by omega))
      have hyl : ys.length = j := by
        have := hown2.1
        rw [cK_len] at this
        simpa [kB] using this
      have HP := hide (And.intro hperm hyl)
      clear hown2 hperm hrise hyl
      go_wp2_with fail
      refine HCo.out.mono ?_
      rintro e w3 ⟨m3, zs, rfl, hown3, hzl, hzs, hzm, hm3, hb3⟩
      have HZ : Hid (namesZ s0 s1 s2 = zs) := by
        refine sortB_ext (namesZ_sort _ _ _) hzs (fun x => ?_)
        rw [namesZ_mem, hzm, HP.out.1.mem_iff, mem_names, has_append, has_append, Bool.or_eq_true, Bool.or_eq_true, or_assoc]
      have HO3 := hide (And.intro hown3 hzl)
      clear hown3 hzl hzs hzm
      go_wp2
      go_ret
      exact ⟨_, m3, rfl, by rw [HZ.out]; exact own_mono HO3.out.1 hb1.size, by rw [HZ.out]; exact HO3.out.2, (hb1.trans (hbx.mono hb1.size)).trans (hb3.mono hb1.size)⟩

set_option maxHeartbeats 4000000 in
theorem conflictsOf_calls (A0 : Option Addr) (n0 c0 : Nat) (A1 : Option Addr) (n1 c1 : Nat) (A2 : Option Addr) (n2 c2 : Nat) (s0 s1 s2 : List SetZ) (w : World) (h0 : RdS w A0 n0 s0) (h1 : RdS w A1 n1 s1) (h2 : RdS w A2 n2 s2) (g0 : stateB s0 = true) (g1 : stateB s1 = true) (g2 : stateB s2 = true) :
    Calls Try.prog 62 #[.slice A0 n0 c0, .slice A1 n1 c1, .slice A2 n2 c2] w (NamPost (confZ s0 s1 s2) w) := by
  have l0 := state_len g0
  have l1 := state_len g1
  have l2 := state_len g2
  rw [h0.2.1] at l0
  rw [h1.2.1] at l1
  rw [h2.2.1] at l2
  have hlit := RdSS.lit w [⟨A0, n0, c0, s0⟩, ⟨A1, n1, c1, s1⟩, ⟨A2, n2, c2, s2⟩] (by
    intro r hr
    simp only [List.mem_cons, List.not_mem_nil, or_false] at hr
    rcases hr with rfl | rfl | rfl
    · exact ⟨h0, by simp only; omega⟩
    · exact ⟨h1, by simp only; omega⟩
    · exact ⟨h2, by simp only; omega⟩) (by simp)
  have hba : Below w.heap.size w (w.alloc (.cells #[.slice A0 n0 c0, .slice A1 n1 c1, .slice A2 n2 c2] 43)) := (Below.refl _ _).alloc (Nat.le_refl _) _
  have HC := hide (allNames_calls _ _ 3 _ s0 s1 s2 _ hlit (by simp) (by
    intro r hr
    simp only [List.mem_cons, List.not_mem_nil, or_false] at hr
    rcases hr with rfl | rfl | rfl
    · exact l0
    · exact l1
    · exact l2) (by simp [allS]) (by
    intro s hs
    simp only [allS, List.flatMap_cons, List.flatMap_nil, List.append_nil, List.mem_append] at hs
    rcases hs with hs | hs | hs
    · exact h0.2.2 s hs
    · exact h1.2.2 s hs
    · exact h2.2.2 s hs))
  have HFN := hide (names_fine h0.2.2 h1.2.2 h2.2.2)
  have HS0 := hide (state_sorted g0)
  have HS1 := hide (state_sorted g1)
  have HS2 := hide (state_sorted g2)
  have HNL := hide (namesZ_len s0 s1 s2)
  rw [h0.2.1, h1.2.1, h2.2.1] at HNL
  clear g0 g1 g2 hlit
  go_enter Try.func62, Try.ntmps62
  go_wp2_with fail
  refine HC.out.mono ?_
  clear HC
  rintro e w1 ⟨v1, m, rfl, hown1, hm, hb1'⟩
  have hb1 := hba.trans (hb1'.mono hba.size)
  have hm72 : m ≤ 72 := by have := HNL.out; rw [hm] at this; omega
  have HM := hide hm
  obtain ⟨A6, c6, rfl⟩ := own_slice hown1
  have HR := hide (RdK.of_own (K := kB) hown1 hm HFN.out)
  clear hown1 hm hb1'
  have hown0 := World.ownsRow_nil w1 w1.heap.size 9 1
  obtain ⟨wo, rfl⟩ : ∃ wo : World, wo = w1 := ⟨_, rfl⟩
  go_wp2
  go_loopw [7, 9, 10, 11, 12, 19] (fun v p q r t i wr => ∃ (j k : Nat), j ≤ m ∧ i = .int .i64 j ∧ k ≤ j ∧ wr.ownsRow wo.heap.size 9 1 v k (cK kB (((namesZ s0 s1 s2).take j).filter (confB s0 s1 s2))) ∧ Hid ((((namesZ s0 s1 s2).take j).filter (confB s0 s1 s2)).length = k) ∧ Below wo.heap.size wo wr) (fun _ _ _ _ _ i _ => m - (intOf i).toNat)
  case atStart => exact ⟨0, 0, Nat.zero_le _, rfl, by omega, by simpa [cK] using hown0, rfl, Below.refl _ _⟩
  case round =>
    clear hown0
    obtain ⟨j, k, hj, rfl, hkj, hown, HK, hb⟩ := hrel
    have HO := hide hown
    clear hown
    have hbx := hb1.trans (hb.mono hb1.size)
    by_cases hlt : j < m
    · obtain ⟨b, off, nm, rfl, hbl, hx, hc, hs1⟩ := RdK.atB (HR.out.below hb (Nat.le_refl _)) hlt
      have HQ : Hid (confB s0 s1 s2 nm = (decide (valZ s1 nm ≠ valZ s2 nm) && decide (valZ s1 nm ≠ valZ s0 nm) && decide (valZ s2 nm ≠ valZ s0 nm))) := rfl
      obtain ⟨x0, hx0⟩ : ∃ x, valZ s0 nm = x := ⟨_, rfl⟩
      obtain ⟨x1, hx1⟩ : ∃ x, valZ s1 nm = x := ⟨_, rfl⟩
      obtain ⟨x2, hx2⟩ : ∃ x, valZ s2 nm = x := ⟨_, rfl⟩
      rw [hx0, hx1, hx2] at HQ
      have HC0 : Hid (∀ W, Below w.heap.size w W → Calls Try.prog 64 #[.slice A0 n0 c0, .string nm] W fun e w' => e = .returned (.int .i64 x0) ∧ Below W.heap.size W w') := fun W hW => by
        have := valueOf_calls A0 n0 c0 s0 nm W (h0.below hW (Nat.le_refl _)) (by omega) HS0.out
        rw [hx0] at this
        exact this
      have HC1 : Hid (∀ W, Below w.heap.size w W → Calls Try.prog 64 #[.slice A1 n1 c1, .string nm] W fun e w' => e = .returned (.int .i64 x1) ∧ Below W.heap.size W w') := fun W hW => by
        have := valueOf_calls A1 n1 c1 s1 nm W (h1.below hW (Nat.le_refl _)) (by omega) HS1.out
        rw [hx1] at this
        exact this
      have HC2 : Hid (∀ W, Below w.heap.size w W → Calls Try.prog 64 #[.slice A2 n2 c2, .string nm] W fun e w' => e = .returned (.int .i64 x2) ∧ Below W.heap.size W w') := fun W hW => by
        have := valueOf_calls A2 n2 c2 s2 nm W (h2.below hW (Nat.le_refl _)) (by omega) HS2.out
        rw [hx2] at this
        exact this
      clear hx0 hx1 hx2
      go_wp2_with fail
      refine (HC0.out _ hbx).mono ?_
      rintro e w2 ⟨rfl, hb2⟩
      have R2 := hide hb2
      clear hb2
      go_wp2_with fail
      refine (HC1.out _ (hbx.trans (R2.out.mono hbx.size))).mono ?_
      rintro e w3 ⟨rfl, hb3⟩
      have R3 := hide (R2.out.trans (hb3.mono R2.out.size))
      clear hb3 R2
      go_wp2_with fail
      refine (HC2.out _ (hbx.trans (R3.out.mono hbx.size))).mono ?_
      rintro e w4 ⟨rfl, hb4⟩
      have R4 := hide (R3.out.trans (hb4.mono R3.out.size))
      clear hb4 R3 HC0 HC1 HC2
      have hzo := hb.size
      have hz5 := R4.out.size
      have ho2 := hide (own_below HO.out R4.out (Nat.le_refl _))
      have hbz := hide (hb.trans (R4.out.mono hb.size))
      by_cases e1 : x1 = x2
      case pos =>
        have HN := hide (conf_no hx.out (HQ.out.trans (by simp [e1])))
        subst e1
        go_wp2
        go_roundw
        case rel => exact ⟨j + 1, k, by omega, by go_num, by omega, by rw [HN.out]; exact ho2.out, by unfold Hid; rw [HN.out]; exact HK.out, hbz.out⟩
        case measure => simp [intOf]; omega
      have f1 : (x1 == x2) = false := by simpa using e1
      have f1' : (x1 != x2) = true := by simpa using e1
      have E1 := hide e1
      clear e1
      by_cases e2 : x1 = x0
      case pos =>
        have HN := hide (conf_no hx.out (HQ.out.trans (by simp [e2])))
        subst e2
        go_wp2
        go_roundw
        case rel => exact ⟨j + 1, k, by omega, by go_num, by omega, by rw [HN.out]; exact ho2.out, by unfold Hid; rw [HN.out]; exact HK.out, hbz.out⟩
        case measure => simp [intOf]; omega
      have f2 : (x1 == x0) = false := by simpa using e2
      have f2' : (x1 != x0) = true := by simpa using e2
      have E2 := hide e2
      clear e2
      by_cases e3 : x2 = x0
      case pos =>
        have HN := hide (conf_no hx.out (HQ.out.trans (by simp [e3])))
        subst e3
        go_wp2
        go_roundw
        case rel => exact ⟨j + 1, k, by omega, by go_num, by omega, by rw [HN.out]; exact ho2.out, by unfold Hid; rw [HN.out]; exact HK.out, hbz.out⟩
        case measure => simp [intOf]; omega
      have f3 : (x2 == x0) = false := by simpa using e3
      have f3' : (x2 != x0) = true := by simpa using e3
      have HN := hide (conf_yes hx.out (HQ.out.trans (by simp [E1.out, E2.out, e3])))
      clear e3
      go_wp2_with (at_builtin; refine appB rfl _ _ rfl wo.heap.size u7 k _ nm rfl ho2.out (by first | rfl | (simp; rfl)) (by omega) (by first | omega | (simp; omega)) ?_; intro v5 w5 hown5 hb5 hz6)
      go_roundw
      case rel => exact ⟨j + 1, k + 1, by omega, by go_num, by omega, by rw [HN.out]; exact hown5, by unfold Hid; rw [HN.out, List.length_append, HK.out]; rfl, hbz.out.trans hb5⟩
      case measure => simp [intOf]; omega
    · have hjn : j = m := by omega
      have HE : Hid (confZ s0 s1 s2 = ((namesZ s0 s1 s2).take j).filter (confB s0 s1 s2)) := by unfold Hid confZ; rw [List.take_of_length_le (by rw [HM.out]; omega)]
      go_wp2
      go_ret
      exact ⟨_, k, rfl, by rw [HE.out]; exact own_mono HO.out hb1.size, by rw [HE.out]; exact HK.out, hbx⟩

end Go.Proofs.Ytmpfkmbfbeejhaa

/- ConflictsOf and MergeStates of the program and of the reference. -/
import Derived.Test.YtmpfkmbfbeejhaaNamesI
import Derived.Test.YtmpfkmbfbeejhaaDiffS
namespace Go.Proofs.Ytmpfkmbfbeejhaa
open Go.RowKit
set_option linter.unusedVariables false

def ConPost (s0 s1 s2 : List SetZ) (w : World) (e : Ending) (w' : World) : Prop :=
  ∃ A' n' c', e = .returned (.tuple #[.slice A' n' c', .int .i64 (conC s0 s1 s2)]) ∧ FrK kB w' w.heap.size w'.heap.size 9 A' n' (conR s0 s1 s2) ∧ n' ≤ 1048576 ∧ Below w.heap.size w w'
def MstPost (s0 s1 s2 : List SetZ) (w : World) (e : Ending) (w' : World) : Prop :=
  ∃ A' n' c', e = .returned (.tuple #[.slice A' n' c', .int .i64 (mstC s0 s1 s2)]) ∧ FrK kSetting w' w.heap.size w'.heap.size 77 A' n' (mstR s0 s1 s2) ∧ n' ≤ 1048576 ∧ Below w.heap.size w w'
theorem con_bad {a b c : List SetZ} (h : three a b c = false) : conC a b c = 1 ∧ conR a b c = [] ∧ mstC a b c = 1 ∧ mstR a b c = [] := by unfold conC conR mstC mstR; rw [h]; exact ⟨rfl, rfl, rfl, rfl⟩
theorem con_ok {a b c : List SetZ} (h : three a b c = true) : conC a b c = 0 ∧ conR a b c = confZ a b c ∧ mstC a b c = mrgC a b c ∧ mstR a b c = mrgR a b c := by unfold conC conR mstC mstR; rw [h]; exact ⟨rfl, rfl, rfl, rfl⟩
theorem ConPost.bad {a b c : List SetZ} {w w' : World} (h : three a b c = false) (hb : Below w.heap.size w w') : ConPost a b c w (.returned (.tuple #[.slice none 0 0, .int .i64 1])) w' :=
  ⟨none, 0, 0, ret_two rfl (congrArg (Value.int .i64) (con_bad h).1.symm), by rw [(con_bad h).2.1]; exact FrK.nil, by omega, hb⟩
theorem MstPost.bad {a b c : List SetZ} {w w' : World} (h : three a b c = false) (hb : Below w.heap.size w w') : MstPost a b c w (.returned (.tuple #[.slice none 0 0, .int .i64 1])) w' :=
  ⟨none, 0, 0, ret_two rfl (congrArg (Value.int .i64) (con_bad h).2.2.1.symm), by rw [(con_bad h).2.2.2]; exact FrK.nil, by omega, hb⟩
theorem confZ_len (a b c : List SetZ) : (confZ a b c).length ≤ a.length + b.length + c.length := Nat.le_trans (List.length_filter_le _ _) (namesZ_len a b c)
theorem confZ_fine {s0 s1 s2 : List SetZ} (f0 : ∀ s ∈ s0, s.fine) (f1 : ∀ s ∈ s1, s.fine) (f2 : ∀ s ∈ s2, s.fine) : ∀ nm ∈ confZ s0 s1 s2, kB.fine nm := fun nm h => names_fine f0 f1 f2 nm (List.mem_filter.1 h).1
theorem three_len {a b c : List SetZ} (h : three a b c = true) : a.length ≤ 24 ∧ b.length ≤ 24 ∧ c.length ≤ 24 := by
  unfold three at h
  rw [Bool.and_eq_true, Bool.and_eq_true] at h
  exact ⟨state_len h.1.1, state_len h.1.2, state_len h.2⟩

set_option maxHeartbeats 8000000 in
theorem implConflictsOf_calls (A0 : Option Addr) (n0 c0 : Nat) (A1 : Option Addr) (n1 c1 : Nat) (A2 : Option Addr) (n2 c2 : Nat) (s0 s1 s2 : List SetZ) (w : World) (h0 : RdS w A0 n0 s0) (h1 : RdS w A1 n1 s1) (h2 : RdS w A2 n2 s2) (hn0 : n0 ≤ 1048576) (hn1 : n1 ≤ 1048576) (hn2 : n2 ≤ 1048576) :
    Calls Try.prog 32 #[.slice A0 n0 c0, .slice A1 n1 c1, .slice A2 n2 c2] w (ConPost s0 s1 s2 w) := by
  have hlit := RdSS.lit w [⟨A0, n0, c0, s0⟩, ⟨A1, n1, c1, s1⟩, ⟨A2, n2, c2, s2⟩] (by
    intro r hr
    simp only [List.mem_cons, List.not_mem_nil, or_false] at hr
    rcases hr with rfl | rfl | rfl
    · exact ⟨h0, hn0⟩
    · exact ⟨h1, hn1⟩
    · exact ⟨h2, hn2⟩) (by simp)
  have hba : Below w.heap.size w (w.alloc (.cells #[.slice A0 n0 c0, .slice A1 n1 c1, .slice A2 n2 c2] 43)) := (Below.refl _ _).alloc (Nat.le_refl _) _
  have HA : ∀ q, three s0 s1 s2 = q → Hid (Calls Try.prog 61 #[.slice (some ⟨w.heap.size, 0, none⟩) 3 3] (w.alloc (.cells #[.slice A0 n0 c0, .slice A1 n1 c1, .slice A2 n2 c2] 43)) fun e w' => e = .returned (.bool q) ∧ Below (w.heap.size + 1) (w.alloc (.cells #[.slice A0 n0 c0, .slice A1 n1 c1, .slice A2 n2 c2] 43)) w') := by
    intro q hq
    have := areStates_calls _ _ 3 _ q _ hlit (by simp) (by rw [← hq]; unfold three; simp [Bool.and_assoc])
    simpa [Hid] using this
  clear hlit
  rcases b_cases (three s0 s1 s2) with hq | hq
  · have HC := HA _ hq
    have HT := hide hq
    clear HA hq
    go_enter Try.func32, Try.ntmps32
    go_wp2_with fail
    refine HC.out.mono ?_
    rintro e w1 ⟨rfl, hb1⟩
    go_wp2
    go_ret2
    exact ConPost.bad HT.out (hba.trans (hb1.mono (by omega)))
  have HC := HA _ hq
  have HT := hide hq
  clear HA hq
  have hl := three_len HT.out
  rw [h0.2.1, h1.2.1, h2.2.1] at hl
  obtain ⟨l0, l1, l2⟩ := hl
  have hg := HT.out
  unfold three at hg
  rw [Bool.and_eq_true, Bool.and_eq_true] at hg
  have G0 := hide hg.1.1
  have G1 := hide hg.1.2
  have G2 := hide hg.2
  clear hg
  go_enter Try.func32, Try.ntmps32
  go_wp2_with fail
  refine HC.out.mono ?_
  clear HC
  rintro e w1 ⟨rfl, hb1⟩
  have hx3 := hba.trans (hb1.mono (by omega))
  clear hb1
  have HK := hide (con_ok HT.out)
  have HFF := hide (confZ_fine h0.2.2 h1.2.2 h2.2.2)
  have hcl := confZ_len s0 s1 s2
  rw [h0.2.1, h1.2.1, h2.2.1] at hcl
  have HCL := hide hcl
  clear hcl
  go_wp2_with fail
  refine (conflictsOf_calls _ _ _ _ _ _ _ _ _ s0 s1 s2 _ (h0.below hx3 (Nat.le_refl _)) (h1.below hx3 (Nat.le_refl _)) (h2.below hx3 (Nat.le_refl _)) G0.out G1.out G2.out).mono ?_
  rintro e w4 ⟨v, m, rfl, hown, hm, hb4⟩
  obtain ⟨A5, c5, rfl⟩ := own_slice hown
  have hm6 : m ≤ 1048576 := by have := HCL.out; omega
  have HO := hide (And.intro (own_mono hown hx3.size) hm)
  clear hown hm
  go_wp2
  go_ret2
  refine ⟨_, _, _, ret_two rfl (congrArg (Value.int .i64) HK.out.1.symm), ?_, hm6, hx3.trans (hb4.mono hx3.size)⟩
  rw [HK.out.2.1]
  exact FrK.of_own (K := kB) HO.out.1 HO.out.2 HFF.out

set_option maxHeartbeats 8000000 in
theorem implMergeStates_calls (A0 : Option Addr) (n0 c0 : Nat) (A1 : Option Addr) (n1 c1 : Nat) (A2 : Option Addr) (n2 c2 : Nat) (s0 s1 s2 : List SetZ) (w : World) (h0 : RdS w A0 n0 s0) (h1 : RdS w A1 n1 s1) (h2 : RdS w A2 n2 s2) (hn0 : n0 ≤ 1048576) (hn1 : n1 ≤ 1048576) (hn2 : n2 ≤ 1048576) :
    Calls Try.prog 30 #[.slice A0 n0 c0, .slice A1 n1 c1, .slice A2 n2 c2] w (MstPost s0 s1 s2 w) := by
  have hlit := RdSS.lit w [⟨A0, n0, c0, s0⟩, ⟨A1, n1, c1, s1⟩, ⟨A2, n2, c2, s2⟩] (by
    intro r hr
    simp only [List.mem_cons, List.not_mem_nil, or_false] at hr
    rcases hr with rfl | rfl | rfl
    · exact ⟨h0, hn0⟩
    · exact ⟨h1, hn1⟩
    · exact ⟨h2, hn2⟩) (by simp)
  have hba : Below w.heap.size w (w.alloc (.cells #[.slice A0 n0 c0, .slice A1 n1 c1, .slice A2 n2 c2] 43)) := (Below.refl _ _).alloc (Nat.le_refl _) _
  have HA : ∀ q, three s0 s1 s2 = q → Hid (Calls Try.prog 61 #[.slice (some ⟨w.heap.size, 0, none⟩) 3 3] (w.alloc (.cells #[.slice A0 n0 c0, .slice A1 n1 c1, .slice A2 n2 c2] 43)) fun e w' => e = .returned (.bool q) ∧ Below (w.heap.size + 1) (w.alloc (.cells #[.slice A0 n0 c0, .slice A1 n1 c1, .slice A2 n2 c2] 43)) w') := by
    intro q hq
    have := areStates_calls _ _ 3 _ q _ hlit (by simp) (by rw [← hq]; unfold three; simp [Bool.and_assoc])
    simpa [Hid] using this
  clear hlit
  rcases b_cases (three s0 s1 s2) with hq | hq
  · have HC := HA _ hq
    have HT := hide hq
    clear HA hq
    go_enter Try.func30, Try.ntmps30
    go_wp2_with fail
    refine HC.out.mono ?_
    rintro e w1 ⟨rfl, hb1⟩
    go_wp2
    go_ret2
    exact MstPost.bad HT.out (hba.trans (hb1.mono (by omega)))
  have HC := HA _ hq
  have HT := hide hq
  clear HA hq
  have hl := three_len HT.out
  rw [h0.2.1, h1.2.1, h2.2.1] at hl
  obtain ⟨l0, l1, l2⟩ := hl
  have hg := HT.out
  unfold three at hg
  rw [Bool.and_eq_true, Bool.and_eq_true] at hg
  have G0 := hide hg.1.1
  have G1 := hide hg.1.2
  have G2 := hide hg.2
  clear hg
  go_enter Try.func30, Try.ntmps30
  go_wp2_with fail
  refine HC.out.mono ?_
  clear HC
  rintro e w1 ⟨rfl, hb1⟩
  have hx3 := hba.trans (hb1.mono (by omega))
  clear hb1
  have HK := hide (con_ok HT.out)
  have HZF := hide (mrgZ_fine G0.out G1.out G2.out h0.2.2 h1.2.2 h2.2.2)
  have HFN := hide (names_fine h0.2.2 h1.2.2 h2.2.2)
  have HS0 := hide (state_sorted G0.out)
  have HS1 := hide (state_sorted G1.out)
  have HS2 := hide (state_sorted G2.out)
  have HNL := hide (namesZ_len s0 s1 s2)
  rw [h0.2.1, h1.2.1, h2.2.1] at HNL
  have HFA : Hid (∀ s ∈ s0 ++ s1 ++ s2, s.fine) := by
    intro s hs
    simp only [List.mem_append] at hs
    rcases hs with (hs | hs) | hs
    · exact h0.2.2 s hs
    · exact h1.2.2 s hs
    · exact h2.2.2 s hs
  go_wp2_with fail
  refine (conflictsOf_calls _ _ _ _ _ _ _ _ _ s0 s1 s2 _ (h0.below hx3 (Nat.le_refl _)) (h1.below hx3 (Nat.le_refl _)) (h2.below hx3 (Nat.le_refl _)) G0.out G1.out G2.out).mono ?_
  rintro e w2 ⟨v1, m1, rfl, hown1, hm1, hb2⟩
  obtain ⟨A5, c5, rfl⟩ := own_slice hown1
  have hx4 := hx3.trans (hb2.mono hx3.size)
  have HM1 := hide hm1
  clear hown1 hm1 hx3 hb2
  by_cases hcf : confZ s0 s1 s2 = []
  case neg =>
    have HE := hide (mrg_conf hcf)
    have hm0 : 0 < m1 := by have h5 := List.length_pos_iff.2 hcf; have h6 := HM1.out; omega
    clear hcf
    go_wp2
    go_ret2
    refine ⟨none, 0, 0, ret_two rfl (congrArg (Value.int .i64) (HK.out.2.2.1.trans HE.out.1).symm), ?_, by omega, hx4⟩
    rw [HK.out.2.2.2, HE.out.2]
    exact FrK.nil
  have hm0 : m1 = 0 := by have h6 := HM1.out; rw [hcf] at h6; simpa using h6.symm
  subst hm0
  have HCF := hide hcf
  clear hcf
  have hlit := RdSS.lit w2 [⟨A0, n0, c0, s0⟩, ⟨A1, n1, c1, s1⟩, ⟨A2, n2, c2, s2⟩] (by
    intro r hr
    simp only [List.mem_cons, List.not_mem_nil, or_false] at hr
    rcases hr with rfl | rfl | rfl
    · exact ⟨h0.below hx4 (Nat.le_refl _), hn0⟩
    · exact ⟨h1.below hx4 (Nat.le_refl _), hn1⟩
    · exact ⟨h2.below hx4 (Nat.le_refl _), hn2⟩) (by simp)
  have HC := hide (allNames_calls _ _ 3 _ s0 s1 s2 _ hlit (by simp) (by
    intro r hr
    simp only [List.mem_cons, List.not_mem_nil, or_false] at hr
    rcases hr with rfl | rfl | rfl
    · exact l0
    · exact l1
    · exact l2) (by simp [allS]) (by
    intro s hs
    refine HFA.out s ?_
    simpa [allS] using hs))
  clear hlit
  have hbb : Below w2.heap.size w2 (w2.alloc (.cells #[.slice A0 n0 c0, .slice A1 n1 c1, .slice A2 n2 c2] 43)) := (Below.refl _ _).alloc (Nat.le_refl _) _
  have hx5 := hx4.trans (hbb.mono hx4.size)
  have HX5 := hide hx5
  clear hx5 hbb
  go_wp2_with fail
  refine HC.out.mono ?_
  clear HC
  rintro e w3 ⟨v1, m, rfl, hown1, hm, hb3⟩
  have hb1 := HX5.out.trans (hb3.mono HX5.out.size)
  have hm72 : m ≤ 72 := by have := HNL.out; rw [hm] at this; omega
  have HM := hide hm
  obtain ⟨A6, c6, rfl⟩ := own_slice hown1
  have HR := hide (RdK.of_own (K := kB) hown1 hm HFN.out)
  clear hown1 hm hb3 hx4
  have hown0 := World.ownsRow_nil w3 w3.heap.size 77 2
  obtain ⟨wo, rfl⟩ : ∃ wo : World, wo = w3 := ⟨_, rfl⟩
  go_wp2
  go_loopw [8, 10, 11, 30] (fun v p q i wr => ∃ (j k : Nat), j ≤ m ∧ i = .int .i64 j ∧ k ≤ j ∧ wr.ownsRow wo.heap.size 77 2 v k (cK kSetting (mrgZ s0 s1 s2 ((namesZ s0 s1 s2).take j))) ∧ Hid ((mrgZ s0 s1 s2 ((namesZ s0 s1 s2).take j)).length = k) ∧ Below wo.heap.size wo wr) (fun _ _ _ i _ => m - (intOf i).toNat)
  case atStart => exact ⟨0, 0, Nat.zero_le _, rfl, by omega, by simpa [cK, mrgZ] using hown0, rfl, Below.refl _ _⟩
  case round =>
    clear hown0
    obtain ⟨j, k, hj, rfl, hkj, hown, HKK, hb⟩ := hrel
    have HO := hide hown
    clear hown
    have hbx := hb1.trans (hb.mono hb1.size)
    have hzo := hb.size
    by_cases hlt : j < m
    · obtain ⟨b, off, nm, rfl, hbl, hx, hc, hs1⟩ := RdK.atB (HR.out.below hb (Nat.le_refl _)) hlt
      have HSN := hide (mrgZ_snoc (base := s0) (a := s1) (b := s2) hx.out)
      have HV : Hid (mrgV s0 s1 s2 nm = if valZ s1 nm = valZ s0 nm then valZ s2 nm else valZ s1 nm) := rfl
      obtain ⟨x0, hx0⟩ : ∃ x, valZ s0 nm = x := ⟨_, rfl⟩
      obtain ⟨x1, hx1⟩ : ∃ x, valZ s1 nm = x := ⟨_, rfl⟩
      obtain ⟨x2, hx2⟩ : ∃ x, valZ s2 nm = x := ⟨_, rfl⟩
      rw [hx0, hx1, hx2] at HV
      have HC0 : Hid (∀ W, Below w.heap.size w W → Calls Try.prog 64 #[.slice A0 n0 c0, .string nm] W fun e w' => e = .returned (.int .i64 x0) ∧ Below W.heap.size W w') := fun W hW => by
        have := valueOf_calls A0 n0 c0 s0 nm W (h0.below hW (Nat.le_refl _)) (by omega) HS0.out
        rw [hx0] at this
        exact this
      have HC1 : Hid (∀ W, Below w.heap.size w W → Calls Try.prog 64 #[.slice A1 n1 c1, .string nm] W fun e w' => e = .returned (.int .i64 x1) ∧ Below W.heap.size W w') := fun W hW => by
        have := valueOf_calls A1 n1 c1 s1 nm W (h1.below hW (Nat.le_refl _)) (by omega) HS1.out
        rw [hx1] at this
        exact this
      have HC2 : Hid (∀ W, Below w.heap.size w W → Calls Try.prog 64 #[.slice A2 n2 c2, .string nm] W fun e w' => e = .returned (.int .i64 x2) ∧ Below W.heap.size W w') := fun W hW => by
        have := valueOf_calls A2 n2 c2 s2 nm W (h2.below hW (Nat.le_refl _)) (by omega) HS2.out
        rw [hx2] at this
        exact this
      clear hx0 hx1 hx2
      go_wp2_with fail
      refine (HC1.out _ hbx).mono ?_
      rintro e w4 ⟨rfl, hb4⟩
      have R4 := hide hb4
      clear hb4
      go_wp2_with fail
      refine (HC0.out _ (hbx.trans (R4.out.mono hbx.size))).mono ?_
      rintro e w5 ⟨rfl, hb5⟩
      have R5 := hide (R4.out.trans (hb5.mono R4.out.size))
      clear hb5 R4
      by_cases e1 : x1 = x0
      case pos =>
        have HW : Hid (mrgV s0 s1 s2 nm = x2) := HV.out.trans (if_pos e1)
        subst e1
        go_wp2_with fail
        refine (HC2.out _ (hbx.trans (R5.out.mono hbx.size))).mono ?_
        rintro e w6 ⟨rfl, hb6⟩
        have R6 := hide (R5.out.trans (hb6.mono R5.out.size))
        clear hb6 R5 HC0 HC1 HC2
        have ho2 := hide (own_below HO.out R6.out (Nat.le_refl _))
        have hbz := hide (hb.trans (R6.out.mono hb.size))
        have hz6 := R6.out.size
        by_cases hneg : x2 < 0
        · have HN : Hid (mrgZ s0 s1 s2 ((namesZ s0 s1 s2).take (j + 1)) = mrgZ s0 s1 s2 ((namesZ s0 s1 s2).take j)) := by unfold Hid; rw [HSN.out, mrgF_no (by rw [HW.out]; exact hneg), List.append_nil]
          go_wp2
          go_roundw
          case rel => exact ⟨j + 1, k, by omega, by go_num, by omega, by rw [HN.out]; exact ho2.out, by unfold Hid; rw [HN.out]; exact HKK.out, hbz.out⟩
          case measure => simp [intOf]; omega
        · have HN : Hid (mrgZ s0 s1 s2 ((namesZ s0 s1 s2).take (j + 1)) = mrgZ s0 s1 s2 ((namesZ s0 s1 s2).take j) ++ [⟨nm, x2⟩]) := by unfold Hid; rw [HSN.out, mrgF_yes (by rw [HW.out]; omega), HW.out]
          go_wp2_with (at_builtin; refine appSetting rfl _ _ rfl wo.heap.size u8 k (mrgZ s0 s1 s2 ((namesZ s0 s1 s2).take j)) ⟨nm, x2⟩ rfl ho2.out (by first | rfl | (simp; rfl)) (by omega) (by first | omega | (simp; omega)) ?_; intro v7 w7 hown7 hb7 hz7)
          go_roundw
          case rel => exact ⟨j + 1, k + 1, by omega, by go_num, by omega, by rw [HN.out]; exact hown7, by unfold Hid; rw [HN.out, List.length_append, HKK.out]; rfl, hbz.out.trans hb7⟩
          case measure => simp [intOf]; omega
      have HW : Hid (mrgV s0 s1 s2 nm = x1) := HV.out.trans (if_neg e1)
      have f1 : (x1 == x0) = false := by simpa using e1
      clear e1 HC0 HC1 HC2
      have ho2 := hide (own_below HO.out R5.out (Nat.le_refl _))
      have hbz := hide (hb.trans (R5.out.mono hb.size))
      have hz6 := R5.out.size
      by_cases hneg : x1 < 0
      · have HN : Hid (mrgZ s0 s1 s2 ((namesZ s0 s1 s2).take (j + 1)) = mrgZ s0 s1 s2 ((namesZ s0 s1 s2).take j)) := by unfold Hid; rw [HSN.out, mrgF_no (by rw [HW.out]; exact hneg), List.append_nil]
        go_wp2
        go_roundw
        case rel => exact ⟨j + 1, k, by omega, by go_num, by omega, by rw [HN.out]; exact ho2.out, by unfold Hid; rw [HN.out]; exact HKK.out, hbz.out⟩
        case measure => simp [intOf]; omega
      · have HN : Hid (mrgZ s0 s1 s2 ((namesZ s0 s1 s2).take (j + 1)) = mrgZ s0 s1 s2 ((namesZ s0 s1 s2).take j) ++ [⟨nm, x1⟩]) := by unfold Hid; rw [HSN.out, mrgF_yes (by rw [HW.out]; omega), HW.out]
        go_wp2_with (at_builtin; refine appSetting rfl _ _ rfl wo.heap.size u8 k (mrgZ s0 s1 s2 ((namesZ s0 s1 s2).take j)) ⟨nm, x1⟩ rfl ho2.out (by first | rfl | (simp; rfl)) (by omega) (by first | omega | (simp; omega)) ?_; intro v7 w7 hown7 hb7 hz7)
        go_roundw
        case rel => exact ⟨j + 1, k + 1, by omega, by go_num, by omega, by rw [HN.out]; exact hown7, by unfold Hid; rw [HN.out, List.length_append, HKK.out]; rfl, hbz.out.trans hb7⟩
        case measure => simp [intOf]; omega
    · obtain rfl : j = m := by omega
      have HE : Hid (mrgZ s0 s1 s2 (namesZ s0 s1 s2) = mrgZ s0 s1 s2 ((namesZ s0 s1 s2).take j)) := by unfold Hid; rw [List.take_of_length_le (by rw [HM.out]; omega)]
      have HKL : Hid ((mrgZ s0 s1 s2 (namesZ s0 s1 s2)).length = k) := by unfold Hid; rw [HE.out]; exact HKK.out
      obtain ⟨A7, c7, rfl⟩ := own_slice HO.out
      by_cases h24 : k ≤ 24
      · have HX := hide (mrg_ok HCF.out (by rw [HKL.out]; exact h24))
        have hown' : wr.ownsRow w.heap.size 77 2 (.slice A7 k c7) k (cK kSetting (mrgZ s0 s1 s2 (namesZ s0 s1 s2))) := by rw [HE.out]; exact own_mono HO.out hb1.size
        have HOW := hide hown'
        clear hown'
        go_wp2
        go_ret2
        refine ⟨_, _, _, ret_two rfl (congrArg (Value.int .i64) (HK.out.2.2.1.trans HX.out.1).symm), ?_, by omega, hbx⟩
        rw [HK.out.2.2.2, HX.out.2]
        exact FrK.of_own (K := kSetting) HOW.out HKL.out HZF.out
      · have HX := hide (mrg_full HCF.out (by rw [HKL.out]; omega))
        go_wp2
        go_ret2
        refine ⟨none, 0, 0, ret_two rfl (congrArg (Value.int .i64) (HK.out.2.2.1.trans HX.out.1).symm), ?_, by omega, hbx⟩
        rw [HK.out.2.2.2, HX.out.2]
        exact FrK.nil

end Go.Proofs.Ytmpfkmbfbeejhaa

/- DiffStates of the reference. -/
import Derived.Test.YtmcdafaadodekaaDiff
namespace Go.Proofs.Ytmcdafaadodekaa
open Go.RowKit
set_option linter.unusedVariables false

theorem l27State_b (A : Option Addr) (n c : Nat) (ss : List SetZ) (q : Bool) (w : World) (h : RdS w A n ss) (hn : n ≤ 1048576) (hq : stateB ss = q) :
    Calls Try.prog 61 #[.slice A n c] w fun e w' => e = .returned (.bool q) ∧ Below w.heap.size w w' := by
  refine (l27State_calls A n c ss w h hn).mono ?_
  rw [hq]
  rintro e w' ⟨rfl, m, rfl⟩
  exact ⟨rfl, below_drewN (Below.refl _ _) m⟩

theorem has_of_at {ss : List SetZ} {k : Nat} {nm : ByteArray} {v : Int} (h : ss[k]? = some ⟨nm, v⟩) : hasZ ss nm = true := hasZ_iff.2 ⟨_, List.mem_of_getElem? h, rfl⟩
theorem mem_at_iff {ss : List SetZ} (hs : SortedZ ss) {k : Nat} {nm : ByteArray} {v v' : Int} (h : ss[k]? = some ⟨nm, v⟩) : (⟨nm, v'⟩ : SetZ) ∈ ss ↔ v = v' := by
  constructor
  · intro h1
    obtain ⟨j, hj⟩ := List.mem_iff_getElem?.1 h1
    have := sorted_uniq hs h hj rfl
    subst this
    rw [h] at hj
    exact congrArg SetZ.value (Option.some.inj hj)
  · rintro rfl
    exact List.mem_of_getElem? h
theorem notmem_of_has {ss : List SetZ} {nm : ByteArray} {v : Int} (h : hasZ ss nm = false) : (⟨nm, v⟩ : SetZ) ∉ ss := fun h1 => by
  rw [hasZ_iff.2 ⟨_, h1, rfl⟩] at h
  cases h

set_option maxHeartbeats 4000000 in
theorem specDiffStates_calls (A0 : Option Addr) (n0 c0 : Nat) (A1 : Option Addr) (n1 c1 : Nat) (a b : List SetZ) (w : World) (h0 : RdS w A0 n0 a) (h1 : RdS w A1 n1 b) (hn0 : n0 ≤ 1048576) (hn1 : n1 ≤ 1048576) :
    Calls Try.prog 27 #[.slice A0 n0 c0, .slice A1 n1 c1] w (DifPost a b w) := by
  have HL0 := hide h0.2.1
  have HL1 := hide h1.2.1
  rcases b_cases (stateB a) with ga | ga
  · have HD := hide (dif_bad (a := a) (b := b) (by rw [ga]; rfl))
    have GA := hide ga
    clear ga
    go_enter Try.func27, Try.ntmps27
    go_wp2_with (go_at_call 61; refine (l27State_b _ _ _ _ _ _ h0 hn0 GA.out).mono ?_; rintro e w1 ⟨rfl, hb1⟩)
    go_ret2
    refine ⟨none, 0, 0, ret_two rfl (congrArg (Value.int .i64) HD.out.1.symm), ?_, by omega, hb1⟩
    rw [HD.out.2]
    exact FrK.nil
  rcases b_cases (stateB b) with gb | gb
  · have HD := hide (dif_bad (a := a) (b := b) (by rw [ga, gb]; rfl))
    have GA := hide ga
    have GB := hide gb
    clear ga gb
    go_enter Try.func27, Try.ntmps27
    go_wp2_with fail
    refine (l27State_b _ _ _ _ _ _ h0 hn0 GA.out).mono ?_
    rintro e w1 ⟨rfl, hb1⟩
    go_wp2_with fail
    refine (l27State_b _ _ _ _ _ _ (h1.below hb1 (Nat.le_refl _)) hn1 GB.out).mono ?_
    rintro e w2 ⟨rfl, hb2⟩
    go_wp2
    go_ret2
    refine ⟨none, 0, 0, ret_two rfl (congrArg (Value.int .i64) HD.out.1.symm), ?_, by omega, hb1.trans (hb2.mono hb1.size)⟩
    rw [HD.out.2]
    exact FrK.nil
  have HD := hide (dif_ok ga gb)
  have GA := hide ga
  have GB := hide gb
  have HSA := hide (state_sorted ga)
  have HF := hide (difR_fine h0.2.2 h1.2.2 a.length b.length)
  have l0 := state_len ga
  have l1 := state_len gb
  rw [HL0.out] at l0
  rw [HL1.out] at l1
  clear ga gb
  go_enter Try.func27, Try.ntmps27
  go_wp2_with fail
  refine (l27State_b _ _ _ _ _ _ h0 hn0 GA.out).mono ?_
  rintro e w1 ⟨rfl, hb1⟩
  go_wp2_with fail
  refine (l27State_b _ _ _ _ _ _ (h1.below hb1 (Nat.le_refl _)) hn1 GB.out).mono ?_
  rintro e w2 ⟨rfl, hb2⟩
  have hbx2 := hb1.trans (hb2.mono hb1.size)
  have hown0 := World.ownsRow_lit (base := w.heap.size) (e := 92) (size := 3) w2 #[] 0 hbx2.size (by simp) rfl
  have hba := hbx2.trans ((Below.refl w2.heap.size w2).alloc (Nat.le_refl _) (.cells #[] 92) |>.mono hbx2.size)
  go_wp2
  go_loopw [6, 7] (fun v i wr => ∃ (k m : Nat), k ≤ n0 ∧ i = .int .i64 k ∧ m ≤ k ∧ wr.ownsRow w.heap.size 92 3 v m (cK kChange (dropK a b k)) ∧ Hid ((dropK a b k).length = m) ∧ Below w.heap.size w wr) (fun _ i _ => n0 - (intOf i).toNat)
  case atStart => exact ⟨0, 0, Nat.zero_le _, rfl, by omega, by simpa [cK, dropK] using hown0, rfl, hba⟩
  case round =>
    clear hown0 hba
    obtain ⟨k, m, hk, rfl, hmk, hown, HM, hb⟩ := hrel
    have HO := hide hown
    clear hown
    by_cases hlt : k < n0
    · obtain ⟨bb, off, s, v, rfl, hbl, hx, hc, hc2, hs1, hv1, hv2⟩ := (h0.below hb (Nat.le_refl _)).at hlt
      go_wp2_with fail
      refine (l27At_calls _ _ _ b s _ (h1.below hb (Nat.le_refl _)) hn1).mono ?_
      rintro e w3 ⟨r, rfl, hr, rfl⟩
      have hsz := hb.size
      rcases hr with ⟨rfl, hh⟩ | ⟨k2, v2, rfl, hh⟩
      · have HN := hide (dropK_yes hx.out hh)
        clear hh
        go_wp2_with (at_builtin; refine appChange rfl _ _ rfl w.heap.size u6 m (dropK a b k) ⟨2, s, v⟩ rfl HO.out rfl (by omega) (by omega) ?_; intro v' w4 hown4 hb4 hz4)
        go_roundw
        case rel => exact ⟨k + 1, m + 1, by omega, by go_num, by omega, by rw [HN.out]; exact hown4, by unfold Hid; rw [HN.out, List.length_append, HM.out]; rfl, hb.trans hb4⟩
        case measure => simp [intOf]; omega
      · have HN := hide (dropK_no hx.out (has_of_at hh))
        clear hh
        go_wp2
        go_roundw
        case rel => exact ⟨k + 1, m, by omega, by go_num, by omega, by rw [HN.out]; exact HO.out, by unfold Hid; rw [HN.out]; exact HM.out, hb⟩
        case measure => simp [intOf]; omega
    · have hkn : k = n0 := by omega
      subst hkn
      go_wp2
      go_loopw [6, 8, 9] (fun v i kk wr => ∃ (j m : Nat), j ≤ n1 ∧ i = .int .i64 j ∧ m ≤ k + j ∧ wr.ownsRow w.heap.size 92 3 v m (cK kChange (dropK a b k ++ putK a b j)) ∧ Hid ((dropK a b k ++ putK a b j).length = m) ∧ Below w.heap.size w wr) (fun _ i _ _ => n1 - (intOf i).toNat)
      case atStart => exact ⟨0, m, Nat.zero_le _, rfl, by omega, by simpa [putK] using HO.out, by simpa [putK, Hid] using HM.out, hb⟩
      case round =>
        clear HO HM hmk hb
        obtain ⟨j, m, hj, rfl, hmk, hown, HM, hb⟩ := hrel
        have HO := hide hown
        clear hown
        have hsz := hb.size
        by_cases hlt : j < n1
        · obtain ⟨bb, off, s, v, rfl, hbl, hx, hc, hc2, hs1, hv1, hv2⟩ := (h1.below hb (Nat.le_refl _)).at hlt
          go_wp2_with fail
          refine (l27At_calls _ _ _ a s _ (h0.below hb (Nat.le_refl _)) hn0).mono ?_
          rintro e w3 ⟨r, rfl, hr, rfl⟩
          rcases hr with ⟨rfl, hh⟩ | ⟨k2, v2, rfl, hh⟩
          · have HN := hide (putK_yes hx.out (notmem_of_has hh))
            clear hh
            go_wp2
            go_quiet (fail)
            have ho2 := hide (own_drewN HO.out (0 + 1))
            go_wp2_with (at_builtin; refine appChange rfl _ _ rfl w.heap.size u6 m (dropK a b k ++ putK a b j) ⟨1, s, v⟩ rfl HO.out rfl (by omega) (by first | omega | (simp; omega)) ?_; intro v' w4 hown4 hb4 hz4)
            go_roundw
            case rel => exact ⟨j + 1, m + 1, by omega, by go_num, by omega, by rw [HN.out, ← List.append_assoc]; exact hown4, by unfold Hid; rw [HN.out, ← List.append_assoc, List.length_append, HM.out]; rfl, (below_drewN hb _).trans hb4⟩
            case measure => simp [intOf]; omega
          · have hk2 : k2 < k := by have := (List.getElem?_eq_some_iff.1 hh).1; rw [HL0.out] at this; exact this
            obtain ⟨bb', off', s', v', rfl, hbl', hx', hc', hc2', hs1', hv1', hv2'⟩ := (h0.below hb (Nat.le_refl _)).at hk2
            have hmi := mem_at_iff (v' := v) HSA.out hh
            obtain ⟨rfl, rfl⟩ : s' = s ∧ v' = v2 := by
              have := hx'.out
              rw [hh] at this
              have h2 := Option.some.inj this
              injection h2 with h3 h4
              exact ⟨h3.symm, h4.symm⟩
            clear hh
            by_cases c2 : v' = v
            · have HN := hide (putK_no hx.out (hmi.2 c2))
              clear hmi
              subst c2
              go_wp2
              go_quiet (fail)
              go_wp2
              go_roundw
              case rel => exact ⟨j + 1, m, by omega, by go_num, by omega, by rw [HN.out]; exact HO.out, by unfold Hid; rw [HN.out]; exact HM.out, below_drewN hb _⟩
              case measure => simp [intOf]; omega
            · have HN := hide (putK_yes hx.out (fun h => c2 (hmi.1 h)))
              have e1 : (v' == v) = false := by simpa using c2
              clear hmi c2
              go_wp2
              go_quiet (fail)
              go_wp2_with (at_builtin; refine appChange rfl _ _ rfl w.heap.size u6 m (dropK a b k ++ putK a b j) ⟨1, s', v⟩ rfl HO.out rfl (by omega) (by first | omega | (simp; omega)) ?_; intro v' w4 hown4 hb4 hz4)
              go_roundw
              case rel => exact ⟨j + 1, m + 1, by omega, by go_num, by omega, by rw [HN.out, ← List.append_assoc]; exact hown4, by unfold Hid; rw [HN.out, ← List.append_assoc, List.length_append, HM.out]; rfl, (below_drewN hb _).trans hb4⟩
              case measure => simp [intOf]; omega
        · have hjn : j = n1 := by omega
          subst hjn
          have hm6 : m ≤ 1048576 := by omega
          obtain ⟨A2, c2, rfl⟩ := own_slice HO.out
          go_wp2
          go_ret2
          refine ⟨_, _, _, ret_two rfl (congrArg (Value.int .i64) HD.out.1.symm), ?_, hm6, hb⟩
          have h5 := HF.out
          rw [HL0.out, HL1.out] at h5
          rw [HD.out.2, HL0.out, HL1.out]
          exact FrK.of_own (K := kChange) HO.out HM.out h5

end Go.Proofs.Ytmcdafaadodekaa

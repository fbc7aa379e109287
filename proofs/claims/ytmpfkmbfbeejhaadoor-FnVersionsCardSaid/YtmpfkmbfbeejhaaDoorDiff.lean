/- DiffStates of the program and of the reference. -/
import Derived.Test.YtmpfkmbfbeejhaaDoorMg
import Derived.Test.YtmpfkmbfbeejhaaDoorAre
import Derived.Test.YtmpfkmbfbeejhaaDoorStChange
namespace Go.Proofs.YtmpfkmbfbeejhaaDoor
open Go.RowKit
set_option linter.unusedVariables false

def chOf (k : Int) (s : SetZ) : ChangeZ := ⟨k, s.name, s.value⟩
/-- The changes that drop, of the first k settings. -/
def dropK (a b : List SetZ) (k : Nat) : List ChangeZ := ((a.take k).filter (fun s => !hasZ b s.name)).map (chOf 2)
/-- The changes that set. -/
def putK (a b : List SetZ) (k : Nat) : List ChangeZ := ((b.take k).filter (fun s => !decide (s ∈ a))).map (chOf 1)
def difC (a b : List SetZ) : Int := if stateB a && stateB b then 0 else 1
def difR (a b : List SetZ) : List ChangeZ := if stateB a && stateB b then dropK a b a.length ++ putK a b b.length else []

theorem dropK_yes {a b : List SetZ} {k : Nat} {s : SetZ} (h : a[k]? = some s) (hb : hasZ b s.name = false) : dropK a b (k + 1) = dropK a b k ++ [⟨2, s.name, s.value⟩] := by
  unfold dropK; rw [take_snoc h]; simp [hb, chOf]
theorem dropK_no {a b : List SetZ} {k : Nat} {s : SetZ} (h : a[k]? = some s) (hb : hasZ b s.name = true) : dropK a b (k + 1) = dropK a b k := by
  unfold dropK; rw [take_snoc h]; simp [hb]
theorem putK_yes {a b : List SetZ} {k : Nat} {s : SetZ} (h : b[k]? = some s) (hb : s ∉ a) : putK a b (k + 1) = putK a b k ++ [⟨1, s.name, s.value⟩] := by
  unfold putK; rw [take_snoc h]; simp [hb, chOf]
theorem putK_no {a b : List SetZ} {k : Nat} {s : SetZ} (h : b[k]? = some s) (hb : s ∈ a) : putK a b (k + 1) = putK a b k := by
  unfold putK; rw [take_snoc h]; simp [hb]
theorem dropK_len (a b : List SetZ) (k : Nat) : (dropK a b k).length ≤ k := by
  unfold dropK
  rw [List.length_map]
  refine Nat.le_trans (List.length_filter_le _ _) ?_
  simp; omega
theorem putK_len (a b : List SetZ) (k : Nat) : (putK a b k).length ≤ k := by
  unfold putK
  rw [List.length_map]
  refine Nat.le_trans (List.length_filter_le _ _) ?_
  simp; omega
theorem difR_fine {a b : List SetZ} (ha : ∀ s ∈ a, s.fine) (hb : ∀ s ∈ b, s.fine) (i j : Nat) : ∀ x ∈ dropK a b i ++ putK a b j, kChange.fine x := by
  intro x hx
  rcases List.mem_append.1 hx with hx | hx
  all_goals
    obtain ⟨s, hs, rfl⟩ := List.mem_map.1 hx
    have h1 := List.mem_of_mem_take (List.mem_filter.1 hs).1
  · exact ⟨⟨by simp [chOf], by simp [chOf]⟩, (ha s h1).1, (ha s h1).2⟩
  · exact ⟨⟨by simp [chOf], by simp [chOf]⟩, (hb s h1).1, (hb s h1).2⟩
theorem dif_ok {a b : List SetZ} (h1 : stateB a = true) (h2 : stateB b = true) : difC a b = 0 ∧ difR a b = dropK a b a.length ++ putK a b b.length := by unfold difC difR; rw [h1, h2]; exact ⟨rfl, rfl⟩
theorem dif_bad {a b : List SetZ} (h : (stateB a && stateB b) = false) : difC a b = 1 ∧ difR a b = [] := by unfold difC difR; rw [h]; exact ⟨rfl, rfl⟩

/-- What DiffStates leaves. -/
def DifPost (a b : List SetZ) (w : World) (e : Ending) (w' : World) : Prop :=
  ∃ A' n' c', e = .returned (.tuple #[.slice A' n' c', .int .i64 (difC a b)]) ∧ FrK kChange w' w.heap.size w'.heap.size 60 A' n' (difR a b) ∧ n' ≤ 1048576 ∧ Below w.heap.size w w'

set_option maxHeartbeats 4000000 in
theorem implDiffStates_calls (A0 : Option Addr) (n0 c0 : Nat) (A1 : Option Addr) (n1 c1 : Nat) (a b : List SetZ) (w : World) (h0 : RdS w A0 n0 a) (h1 : RdS w A1 n1 b) (hn0 : n0 ≤ 1048576) (hn1 : n1 ≤ 1048576) :
    Calls Tryd.prog 8 #[.slice A0 n0 c0, .slice A1 n1 c1] w (DifPost a b w) := by
  have HL0 := hide h0.2.1
  have HL1 := hide h1.2.1
  have hlit := RdSS.lit w [⟨A0, n0, c0, a⟩, ⟨A1, n1, c1, b⟩] (by
    intro r hr
    simp only [List.mem_cons, List.not_mem_nil, or_false] at hr
    rcases hr with rfl | rfl
    · exact ⟨h0, hn0⟩
    · exact ⟨h1, hn1⟩) (by simp)
  have hba : Below w.heap.size w (w.alloc (.cells #[.slice A0 n0 c0, .slice A1 n1 c1] 26)) := (Below.refl _ _).alloc (Nat.le_refl _) _
  have HA : ∀ q, (stateB a && stateB b) = q → Hid (Calls Tryd.prog 24 #[.slice (some ⟨w.heap.size, 0, none⟩) 2 2] (w.alloc (.cells #[.slice A0 n0 c0, .slice A1 n1 c1] 26)) fun e w' => e = .returned (.bool q) ∧ Below (w.heap.size + 1) (w.alloc (.cells #[.slice A0 n0 c0, .slice A1 n1 c1] 26)) w') := by
    intro q hq
    have := areStates_calls _ _ 2 _ q _ hlit (by simp) (by rw [← hq]; simp)
    simpa [Hid] using this
  clear hlit
  rcases b_cases (stateB a && stateB b) with hq | hq
  · have HC := hide (HA _ hq)
    have HD := hide (dif_bad hq)
    clear HA hq
    go_enter Tryd.func8, Tryd.ntmps8
    go_wp2_with fail
    refine HC.out.mono ?_
    rintro e w1 ⟨rfl, hb1⟩
    go_wp2
    go_ret2
    refine ⟨none, 0, 0, ret_two rfl (congrArg (Value.int .i64) HD.out.1.symm), ?_, by omega, hba.trans (hb1.mono (by omega))⟩
    rw [HD.out.2]
    exact FrK.nil
  have HC := HA _ hq
  obtain ⟨ga, gb⟩ := Bool.and_eq_true_iff.1 hq
  have HD := hide (dif_ok ga gb)
  have GA := hide ga
  have GB := hide gb
  have SA := state_sorted ga
  have SB := state_sorted gb
  have HF := hide (difR_fine h0.2.2 h1.2.2 a.length b.length)
  have l0 := state_len ga
  have l1 := state_len gb
  rw [HL0.out] at l0
  rw [HL1.out] at l1
  have HSA := hide SA
  have HSB := hide SB
  clear HA hq ga gb SA SB
  go_enter Tryd.func8, Tryd.ntmps8
  go_wp2_with fail
  refine HC.out.mono ?_
  clear HC
  rintro e w1 ⟨rfl, hb1⟩
  have hbx1 := hba.trans (hb1.mono (by omega))
  have hown0 := World.ownsRow_nil w1 w.heap.size 60 3
  go_wp2
  go_loopw [6, 18] (fun v i wr => ∃ (k m : Nat), k ≤ n0 ∧ i = .int .i64 k ∧ m ≤ k ∧ wr.ownsRow w.heap.size 60 3 v m (cK kChange (dropK a b k)) ∧ Hid ((dropK a b k).length = m) ∧ Below w.heap.size w wr) (fun _ i _ => n0 - (intOf i).toNat)
  case atStart => exact ⟨0, 0, Nat.zero_le _, rfl, by omega, by simpa [cK, dropK] using hown0, rfl, hbx1⟩
  case round =>
    clear hown0
    obtain ⟨k, m, hk, rfl, hmk, hown, HM, hb⟩ := hrel
    have HO := hide hown
    clear hown
    by_cases hlt : k < n0
    · obtain ⟨bb, off, s, v, rfl, hbl, hx, hc, hc2, hs1, hv1, hv2⟩ := (h0.below hb (Nat.le_refl _)).at hlt
      have BB := hide ((Below.refl wr.heap.size wr).alloc (Nat.le_refl _) (.cells #[.string s, .int .i64 v] 57))
      have hbW := hb.trans (BB.out.mono hb.size)
      have HV := hide (valueOf_calls _ _ c1 b s _ (h1.below hbW (Nat.le_refl _)) hn1 HSB.out)
      have hvh := val_has GB.out s
      rcases b_cases (hasZ b s) with hd | hd
      · rw [hd] at hvh
        have HN := hide (dropK_yes hx.out hd)
        have hlt0 : valZ b s < 0 := by simpa using hvh
        clear hvh hd
        go_wp2_with fail
        refine HV.out.mono ?_
        clear HV
        rintro e w2 ⟨rfl, hb2⟩
        have d0 : w2.cell? ⟨wr.heap.size, 0, none⟩ = some (.string s) := (hb2.cell (by simp)).trans (by simp [go_sem])
        have d1 : w2.cell? ⟨wr.heap.size, 1, none⟩ = some (.int .i64 v) := (hb2.cell (by simp)).trans (by simp [go_sem])
        have hb3 := BB.out.trans (hb2.mono BB.out.size)
        have hbx := hb.trans (hb3.mono hb.size)
        have ho2 := hide (own_below HO.out hb3 (Nat.le_refl _))
        have hsz := hbx.size
        go_wp2_with (at_builtin; refine appChange rfl _ _ rfl w.heap.size u6 m (dropK a b k) ⟨2, s, v⟩ rfl ho2.out rfl (by omega) (by omega) ?_; intro v' w4 hown4 hb4 hz4)
        go_roundw
        case rel => exact ⟨k + 1, m + 1, by omega, by go_num, by omega, by rw [HN.out]; exact hown4, by unfold Hid; rw [HN.out, List.length_append, HM.out]; rfl, hbx.trans hb4⟩
        case measure => simp [intOf]; omega
      · rw [hd] at hvh
        have HN := hide (dropK_no hx.out hd)
        have hlt0 : 0 ≤ valZ b s := by simpa using hvh
        clear hvh hd
        go_wp2_with fail
        refine HV.out.mono ?_
        clear HV
        rintro e w2 ⟨rfl, hb2⟩
        have hb3 := BB.out.trans (hb2.mono BB.out.size)
        have hbx := hb.trans (hb3.mono hb.size)
        have ho2 := hide (own_below HO.out hb3 (Nat.le_refl _))
        go_wp2
        go_roundw
        case rel => exact ⟨k + 1, m, by omega, by go_num, by omega, by rw [HN.out]; exact ho2.out, by unfold Hid; rw [HN.out]; exact HM.out, hbx⟩
        case measure => simp [intOf]; omega
    · have hkn : k = n0 := by omega
      subst hkn
      go_wp2
      go_loopw [6, 35] (fun v i wr => ∃ (j m : Nat), j ≤ n1 ∧ i = .int .i64 j ∧ m ≤ k + j ∧ wr.ownsRow w.heap.size 60 3 v m (cK kChange (dropK a b k ++ putK a b j)) ∧ Hid ((dropK a b k ++ putK a b j).length = m) ∧ Below w.heap.size w wr) (fun _ i _ => n1 - (intOf i).toNat)
      case atStart => exact ⟨0, m, Nat.zero_le _, rfl, by omega, by simpa [putK] using HO.out, by simpa [putK, Hid] using HM.out, hb⟩
      case round =>
        clear HO HM hmk hb
        obtain ⟨j, m, hj, rfl, hmk, hown, HM, hb⟩ := hrel
        have HO := hide hown
        clear hown
        by_cases hlt : j < n1
        · obtain ⟨bb, off, s, v, rfl, hbl, hx, hc, hc2, hs1, hv1, hv2⟩ := (h1.below hb (Nat.le_refl _)).at hlt
          have BB := hide ((Below.refl wr.heap.size wr).alloc (Nat.le_refl _) (.cells #[.string s, .int .i64 v] 57))
          have hv0 := set_val (state_set GB.out hx.out)
          simp only at hv0
          have hvm := val_mem GA.out (nm := s) hv0.1
          go_wp2_with fail
          obtain ⟨w1, hw1⟩ : ∃ w1, w1 = wr.alloc (.cells #[.string s, .int .i64 v] 57) := ⟨_, rfl⟩
          rw [← hw1]
          rw [← hw1] at BB
          have d0 : w1.cell? ⟨wr.heap.size, 0, none⟩ = some (.string s) := by rw [hw1]; simp [go_sem]
          have d1 : w1.cell? ⟨wr.heap.size, 1, none⟩ = some (.int .i64 v) := by rw [hw1]; simp [go_sem]
          have hzz : wr.heap.size < w1.heap.size := by rw [hw1]; simp
          clear hw1
          have hbW := hb.trans (BB.out.mono hb.size)
          rcases b_cases (decide ((⟨s, v⟩ : SetZ) ∈ a)) with hd | hd
          · have hne : valZ a s ≠ v := fun e => (of_decide_eq_false hd) (hvm.1 e)
            have HN := hide (putK_yes hx.out (of_decide_eq_false hd))
            have e1 : (valZ a s == v) = false := by simpa using hne
            have e2 : (valZ a s != v) = true := by simpa using hne
            clear hd hne hvm
            go_region_held3 (fun w' => w'.cell? ⟨wr.heap.size, 0, none⟩ = some (.string s) ∧ w'.cell? ⟨wr.heap.size, 1, none⟩ = some (.int .i64 v))
              (first | exact ⟨d0, d1⟩ | exact ⟨(hb3.cell (p := ⟨wr.heap.size, 0, none⟩) hzz).trans d0, (hb3.cell (p := ⟨wr.heap.size, 1, none⟩) hzz).trans d1⟩)
              (first | (go_at_call 25; refine (valueOf_calls _ _ _ a s _ (h0.below hbW.drew (Nat.le_refl _)) hn0 HSA.out).mono ?_; rintro e w3 ⟨rfl, hb3⟩))
            have d0 := (hb3.cell (p := ⟨wr.heap.size, 0, none⟩) hzz).trans d0
            have d1 := (hb3.cell (p := ⟨wr.heap.size, 1, none⟩) hzz).trans d1
            have hbx := hbW.drew.trans (hb3.mono hbW.size)
            have hb4 := BB.out.drew.trans (hb3.mono BB.out.size)
            have ho2 := hide (own_below HO.out hb4 (Nat.le_refl _))
            have hsz := hbx.size
            go_wp2_with (at_builtin; refine appChange rfl _ _ rfl w.heap.size u6 m (dropK a b k ++ putK a b j) ⟨1, s, v⟩ rfl ho2.out rfl (by omega) (by omega) ?_; intro v' w4 hown4 hb4 hz4)
            go_roundw
            case rel => exact ⟨j + 1, m + 1, by omega, by go_num, by omega, by rw [HN.out, ← List.append_assoc]; exact hown4, by unfold Hid; rw [HN.out, ← List.append_assoc, List.length_append, HM.out]; rfl, hbx.trans hb4⟩
            case measure => simp [intOf]; omega
          · have hve := hvm.2 (of_decide_eq_true hd)
            have HN := hide (putK_no hx.out (of_decide_eq_true hd))
            have HV := hide hve
            clear hd hve hvm
            go_region_held3 (fun w' => w'.cell? ⟨wr.heap.size, 0, none⟩ = some (.string s) ∧ w'.cell? ⟨wr.heap.size, 1, none⟩ = some (.int .i64 v))
              (first | exact ⟨d0, d1⟩ | exact ⟨(hb3.cell (p := ⟨wr.heap.size, 0, none⟩) hzz).trans d0, (hb3.cell (p := ⟨wr.heap.size, 1, none⟩) hzz).trans d1⟩)
              (first | (go_at_call 25; refine (valueOf_calls _ _ _ a s _ (h0.below hbW.drew (Nat.le_refl _)) hn0 HSA.out).mono ?_; rw [HV.out]; rintro e w3 ⟨rfl, hb3⟩))
            have hbx := hbW.drew.trans (hb3.mono hbW.size)
            have hb4 := BB.out.drew.trans (hb3.mono BB.out.size)
            have ho2 := hide (own_below HO.out hb4 (Nat.le_refl _))
            go_wp2
            go_roundw
            case rel => exact ⟨j + 1, m, by omega, by go_num, by omega, by rw [HN.out]; exact ho2.out, by unfold Hid; rw [HN.out]; exact HM.out, hbx⟩
            case measure => simp [intOf]; omega
        · have hjn : j = n1 := by omega
          subst hjn
          have hm6 : m ≤ 1048576 := by omega
          obtain ⟨A2, c2, rfl⟩ := own_slice HO.out
          go_wp2
          go_ret2
          refine ⟨_, _, _, ret_two rfl (congrArg (Value.int .i64) HD.out.1.symm), ?_, hm6, hb⟩
          have h5 := HF.out
          rw [HL0.out, HL1.out] at h5
          rw [HD.out.2, HL0.out, HL1.out]
          exact FrK.of_own (K := kChange) HO.out HM.out h5

end Go.Proofs.YtmpfkmbfbeejhaaDoor

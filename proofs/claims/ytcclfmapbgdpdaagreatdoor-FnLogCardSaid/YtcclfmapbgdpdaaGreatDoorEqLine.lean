/- slices.Equal and slices.Clone over Line. Printed by gen_eqclone.py. -/
import Derived.Test.YtcclfmapbgdpdaaGreatDoorStLine
import Derived.Lib.SliceRun
namespace Go.Proofs.YtcclfmapbgdpdaaGreatDoor
open Go.RowKit
set_option linter.unusedVariables false

theorem ne_of_atLine {ss ts : List LineZ} {k : Nat} {x y : LineZ} (hx : ss[k]? = some x) (hy : ts[k]? = some y) (h : x ≠ y) : ss ≠ ts := by
  rintro rfl
  rw [hx] at hy
  injection hy with hy
  exact h hy
set_option maxHeartbeats 1000000 in
theorem equalLine_calls (A A' : Option Addr) (n n' c c' : Nat) (ss ts : List LineZ) (w : World) (h : RdK kLine w A n ss) (h' : RdK kLine w A' n' ts) (hn : n ≤ 1048576) (hn' : n' ≤ 1048576) :
    Calls Tryz.prog 98 #[.slice A n c, .slice A' n' c'] w fun e w' => e = .returned (.bool (decide (ss = ts))) ∧ Below w.heap.size w w' := by
  have HL := hide h.2.1
  have HL' := hide h'.2.1
  by_cases hnn : n = n'
  · subst hnn
    go_enter Tryz.func98, Tryz.ntmps98
    go_wp2
    go_loopw [13] (fun i wr => ∃ (k : Nat), k ≤ n ∧ i = .int .i64 k ∧ Hid (ss.take k = ts.take k) ∧ Below w.heap.size w wr) (fun i _ => n - (intOf i).toNat)
    case atStart => exact ⟨0, Nat.zero_le _, rfl, by simp [Hid], Below.refl _ _⟩
    case round =>
      obtain ⟨k, hk, rfl, HC, hb⟩ := hrel
      by_cases hlt : k < n
      · obtain ⟨b, off, f0, f1, f2, f3, hA, hbl, hx, hc0, hc1, hc2, hc3, _, _, _, _, _, _, _⟩ := (h.below hb (Nat.le_refl _)).atLine hlt
        obtain ⟨b', off', g0, g1, g2, g3, hA', hbl', hy, hd0, hd1, hd2, hd3, _, _, _, _, _, _, _⟩ := (h'.below hb (Nat.le_refl _)).atLine hlt
        subst hA hA'
        by_cases c0 : f0 = g0
        case neg =>
          have e0 : (f0 == g0) = false := by simpa using c0
          have HNE := hide (ne_of_atLine hx.out hy.out (by simp [c0]))
          clear c0
          go_wp2
          go_quiet (fail)
          go_wp2
          go_ret
          exact ⟨ret_bool (decide_eq_false HNE.out).symm, below_drewN hb nq⟩
        by_cases c1 : f1 = g1
        case neg =>
          have e1 : (f1 == g1) = false := by simpa using c1
          have e0 : (f0 == g0) = true := by simpa using c0
          have HNE := hide (ne_of_atLine hx.out hy.out (by simp [c1]))
          clear c0 c1
          go_wp2
          go_quiet (fail)
          go_wp2
          go_ret
          exact ⟨ret_bool (decide_eq_false HNE.out).symm, below_drewN hb nq⟩
        by_cases c2 : f2 = g2
        case neg =>
          obtain ⟨e2, e2'⟩ := str_ne c2
          have e0 : (f0 == g0) = true := by simpa using c0
          have e1 : (f1 == g1) = true := by simpa using c1
          have HNE := hide (ne_of_atLine hx.out hy.out (by simp [c2]))
          clear c0 c1 c2
          go_wp2
          go_quiet (fail)
          go_wp2
          go_ret
          exact ⟨ret_bool (decide_eq_false HNE.out).symm, below_drewN hb nq⟩
        by_cases c3 : f3 = g3
        case neg =>
          have e3 : (f3 == g3) = false := by simpa using c3
          have e0 : (f0 == g0) = true := by simpa using c0
          have e1 : (f1 == g1) = true := by simpa using c1
          obtain ⟨e2, e2'⟩ := str_eq c2
          have HNE := hide (ne_of_atLine hx.out hy.out (by simp [c3]))
          clear c0 c1 c2 c3
          go_wp2
          go_quiet (fail)
          go_wp2
          go_ret
          exact ⟨ret_bool (decide_eq_false HNE.out).symm, below_drewN hb nq⟩
        have e0 : (f0 == g0) = true := by simpa using c0
        have e1 : (f1 == g1) = true := by simpa using c1
        obtain ⟨e2, e2'⟩ := str_eq c2
        have e3 : (f3 == g3) = true := by simpa using c3
        have HE : Hid (ss.take (k + 1) = ts.take (k + 1)) := by unfold Hid; rw [take_snoc hx.out, take_snoc hy.out, HC.out, c0, c1, c2, c3]
        clear c0 c1 c2 c3
        go_wp2
        go_quiet (fail)
        go_wp2
        go_roundw
        case rel => exact ⟨k + 1, by omega, by go_num, HE, below_drewN hb nq⟩
        case measure => simp [intOf]; omega
      · have hkn : k = n := by omega
        have HE : Hid (ss = ts) := by
          have := HC.out
          rwa [List.take_of_length_le (by rw [HL.out]; omega), List.take_of_length_le (by rw [HL'.out]; omega)] at this
        clear hkn
        go_wp2
        go_ret
        exact ⟨ret_bool (decide_eq_true HE.out).symm, hb⟩
  · have HNE : Hid (ss ≠ ts) := fun e => hnn (by rw [← HL.out, ← HL'.out, e])
    have hd : ((n : Int) != (n' : Int)) = true := by simp; omega
    go_enter Tryz.func98, Tryz.ntmps98
    go_wp2
    go_ret
    exact ⟨ret_bool (decide_eq_false HNE.out).symm, Below.refl _ _⟩

set_option maxHeartbeats 1000000 in
theorem cloneLine_calls (A : Option Addr) (n c : Nat) (gs : List LineZ) (w : World) (h : RdK kLine w A n gs) (hn : n ≤ 1048576) :
    Calls Tryz.prog 95 #[.slice A n c] w fun e w' => ∃ A' c', e = .returned (.slice A' n c') ∧ w'.ownsRow w.heap.size 48 4 (.slice A' n c') n (cK kLine gs) ∧ (A' = none → c' = 0) ∧ Below w.heap.size w w' := by
  have heq := fun (w : World) (a : Option Addr) => Lib.run_eql_slice_nil (P := Tryz.prog) w 39 48 a n c 0 0 Tryz.underlying39
  rcases A with _ | ad
  · have h0 : n = 0 := by
      rcases Nat.eq_zero_or_pos n with h0 | h0
      · exact h0
      · obtain ⟨_, _, hA, _⟩ := h.1.2 h0
        cases hA
    subst h0
    have hs : gs = [] := List.eq_nil_of_length_eq_zero h.2.1
    subst hs
    have ho := World.ownsRow_nil w w.heap.size 48 4
    have HO := hide ho
    clear ho h
    go_enter Tryz.func95, Tryz.ntmps95
    go_wp2
    go_ret
    exact ⟨none, 0, rfl, HO.out, fun _ => rfl, Below.refl _ _⟩
  · have hlit := World.ownsRow_lit (base := w.heap.size) (e := 48) (size := 4) w #[] 0 (Nat.le_refl _) (by simp) rfl
    have hba : Below w.heap.size w (w.alloc (.cells #[] 48)) := (Below.refl _ _).alloc (Nat.le_refl _) _
    have HO := hide (And.intro hlit (h.1.below hba (Nat.le_refl _)))
    clear hlit h
    go_enter Tryz.func95, Tryz.ntmps95
    go_wp2_with (at_builtin; refine appsLine rfl _ _ rfl w.heap.size (.slice (some ⟨w.heap.size, 0, none⟩) 0 0) 0 [] rfl HO.out.1 (some ad) n c gs rfl HO.out.2 (by omega) (by simp) ?_; intro v' w4 hown4 hb4 hz4)
    rw [Nat.zero_add, List.nil_append] at hown4
    obtain ⟨A', c', rfl⟩ := own_slice hown4
    have hnil : A' = none → c' = 0 := by
      rintro rfl
      rcases hown4.2 with ⟨hv, _⟩ | ⟨g, cap, cur, hv, _⟩
      · injection hv with _ _ hc
      · injection hv with hv
        cases hv
    go_ret
    exact ⟨A', c', rfl, hown4, hnil, hba.trans hb4⟩

end Go.Proofs.YtcclfmapbgdpdaaGreatDoor

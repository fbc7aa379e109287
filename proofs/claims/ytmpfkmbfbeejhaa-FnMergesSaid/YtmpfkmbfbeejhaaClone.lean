/- slices.Clone over settings, copyVersion, commit. -/
import Derived.Test.YtmpfkmbfbeejhaaGrow
import Derived.Test.YtmpfkmbfbeejhaaValidHist
import Derived.Test.YtmpfkmbfbeejhaaVersioned
namespace Go.Proofs.Ytmpfkmbfbeejhaa
open Go.RowKit
set_option linter.unusedVariables false

theorem cS_eq (ss : List SetZ) : (ss.map cS).flatten = cK kSetting ss := rfl

set_option maxHeartbeats 1000000 in
theorem cloneS_calls (A : Option Addr) (n c : Nat) (ss : List SetZ) (w : World) (h : RdS w A n ss) (hn : n ≤ 1048576) :
    Calls Try.prog 128 #[.slice A n c] w fun e w' => ∃ A' c', e = .returned (.slice A' n c') ∧ w'.ownsRow w.heap.size 77 2 (.slice A' n c') n (cK kSetting ss) ∧ Below w.heap.size w w' := by
  have heq := fun (w : World) (a : Option Addr) => Lib.run_eql_slice_nil (P := Try.prog) w 43 77 a n c 0 0 Try.underlying43
  rcases A with _ | ad
  · have h0 : n = 0 := by
      rcases Nat.eq_zero_or_pos n with h0 | h0
      · exact h0
      · obtain ⟨_, _, hA, _⟩ := h.1.2 h0
        cases hA
    subst h0
    have hs : ss = [] := List.eq_nil_of_length_eq_zero h.2.1
    subst hs
    have ho := World.ownsRow_nil w w.heap.size 77 2
    have HO := hide ho
    clear ho h
    go_enter Try.func128, Try.ntmps128
    go_wp2
    go_ret
    exact ⟨none, 0, rfl, HO.out, Below.refl _ _⟩
  · have hlit := World.ownsRow_lit (base := w.heap.size) (e := 77) (size := 2) w #[] 0 (Nat.le_refl _) (by simp) rfl
    have hba : Below w.heap.size w (w.alloc (.cells #[] 77)) := (Below.refl _ _).alloc (Nat.le_refl _) _
    have HO := hide (And.intro hlit (h.1.below hba (Nat.le_refl _)))
    clear hlit h
    go_enter Try.func128, Try.ntmps128
    go_wp2_with (at_builtin; refine appsSetting rfl _ _ rfl w.heap.size (.slice (some ⟨w.heap.size, 0, none⟩) 0 0) 0 [] rfl HO.out.1 (some ad) n c ss rfl HO.out.2 (by omega) (by simp) ?_; intro v' w4 hown4 hb4 hz4)
    rw [Nat.zero_add, List.nil_append] at hown4
    obtain ⟨A', c', rfl⟩ := own_slice hown4
    go_ret
    exact ⟨A', c', rfl, hown4, hba.trans hb4⟩

end Go.Proofs.Ytmpfkmbfbeejhaa

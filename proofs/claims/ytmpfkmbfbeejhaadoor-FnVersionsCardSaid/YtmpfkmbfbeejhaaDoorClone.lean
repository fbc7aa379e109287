/- slices.Clone over settings, copyVersion, commit. -/
import Derived.Test.YtmpfkmbfbeejhaaDoorGrow
import Derived.Test.YtmpfkmbfbeejhaaDoorValidHist
import Derived.Test.YtmpfkmbfbeejhaaDoorVersioned
namespace Go.Proofs.YtmpfkmbfbeejhaaDoor
open Go.RowKit
set_option linter.unusedVariables false

theorem cS_eq (ss : List SetZ) : (ss.map cS).flatten = cK kSetting ss := rfl

set_option maxHeartbeats 1000000 in
theorem cloneS_calls (A : Option Addr) (n c : Nat) (ss : List SetZ) (w : World) (h : RdS w A n ss) (hn : n ≤ 1048576) :
    Calls Tryd.prog 31 #[.slice A n c] w fun e w' => ∃ A' c', e = .returned (.slice A' n c') ∧ w'.ownsRow w.heap.size 57 2 (.slice A' n c') n (cK kSetting ss) ∧ Below w.heap.size w w' := by
  have heq := fun (w : World) (a : Option Addr) => Lib.run_eql_slice_nil (P := Tryd.prog) w 26 57 a n c 0 0 Tryd.underlying26
  rcases A with _ | ad
  · have h0 : n = 0 := by
      rcases Nat.eq_zero_or_pos n with h0 | h0
      · exact h0
      · obtain ⟨_, _, hA, _⟩ := h.1.2 h0
        cases hA
    subst h0
    have hs : ss = [] := List.eq_nil_of_length_eq_zero h.2.1
    subst hs
    have ho := World.ownsRow_nil w w.heap.size 57 2
    have HO := hide ho
    clear ho h
    go_enter Tryd.func31, Tryd.ntmps31
    go_wp2
    go_ret
    exact ⟨none, 0, rfl, HO.out, Below.refl _ _⟩
  · have hlit := World.ownsRow_lit (base := w.heap.size) (e := 57) (size := 2) w #[] 0 (Nat.le_refl _) (by simp) rfl
    have hba : Below w.heap.size w (w.alloc (.cells #[] 57)) := (Below.refl _ _).alloc (Nat.le_refl _) _
    have HO := hide (And.intro hlit (h.1.below hba (Nat.le_refl _)))
    clear hlit h
    go_enter Tryd.func31, Tryd.ntmps31
    go_wp2_with (at_builtin; refine appsSetting rfl _ _ rfl w.heap.size (.slice (some ⟨w.heap.size, 0, none⟩) 0 0) 0 [] rfl HO.out.1 (some ad) n c ss rfl HO.out.2 (by omega) (by simp) ?_; intro v' w4 hown4 hb4 hz4)
    rw [Nat.zero_add, List.nil_append] at hown4
    obtain ⟨A', c', rfl⟩ := own_slice hown4
    go_ret
    exact ⟨A', c', rfl, hown4, hba.trans hb4⟩

end Go.Proofs.YtmpfkmbfbeejhaaDoor

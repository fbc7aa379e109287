/- The state of a version, of the program and of the reference. -/
import Derived.Test.YtmpfkmbfbeejhaaDoorAddV
namespace Go.Proofs.YtmpfkmbfbeejhaaDoor
open Go.RowKit
set_option linter.unusedVariables false

/-- The state of a version, empty for 0. -/
def stV (vs : List VerZ) (k : Nat) : List SetZ := if k = 0 then [] else match vs[k - 1]? with | some v => v.state | none => []
theorem hist_state {vs : List VerZ} {k : Nat} {v : VerZ} (h : histB vs = true) (hv : vs[k]? = some v) : stateB v.state = true := by
  unfold histB at h
  rw [Bool.and_eq_true, List.all_eq_true] at h
  have hk := (List.getElem?_eq_some_iff.1 hv).1
  have := h.1 k (by simpa using hk)
  unfold verKB at this
  rw [hv] at this
  simp only [Bool.and_eq_true] at this
  exact this.2.2.2
theorem stateB_nil : stateB [] = true := by decide
theorem stV_valid {vs : List VerZ} (h : histB vs = true) (k : Nat) : stateB (stV vs k) = true := by
  unfold stV
  split
  · exact stateB_nil
  · rcases hx : vs[k - 1]? with _ | v
    · exact stateB_nil
    · exact hist_state h hx
/-- What stateOf leaves. -/
def StPost (vs : List VerZ) (k : Nat) (w : World) (e : Ending) (w' : World) : Prop :=
  ∃ A' n' c', e = .returned (.slice A' n' c') ∧ RdS w' A' n' (stV vs k) ∧ Below w.heap.size w w'

set_option maxHeartbeats 1000000 in
theorem stateOf_calls (A : Option Addr) (n c : Nat) (vs : List VerZ) (k : Nat) (w : World) (h : RdVz w A n vs) (hn : n ≤ 1048576) (hk : k ≤ n) :
    Calls Tryd.prog 40 #[.slice A n c, .int .i64 k] w (StPost vs k w) := by
  have HL := hide h.len
  rcases Nat.eq_zero_or_pos k with h0 | h0
  · subst h0
    have HE : Hid (stV vs 0 = []) := rfl
    go_enter Tryd.func40, Tryd.ntmps40
    go_wp2
    go_ret
    refine ⟨_, 0, _, rfl, ?_, Below.refl _ _⟩
    rw [HE.out]
    exact ⟨Rd.nil, rfl, by simp⟩
  · obtain ⟨rs, h, rfl⟩ := h
    obtain ⟨b, off, nu, pa, me, Aq, nq, cq, st, rfl, hbl, hx, hc, hc2, hc3, hc4, hn1, hn2, hp1, hp2, hme, hst, hnq⟩ := h.at (k := k - 1) (by omega)
    have HE : Hid (stV (zV rs) k = st) := by
      unfold Hid stV
      rw [if_neg (by omega), zV_at hx.out]
      rfl
    obtain ⟨k', rfl⟩ : ∃ k', k = k' + 1 := ⟨k - 1, by omega⟩
    have e1 : k' + 1 - 1 = k' := by omega
    rw [e1] at hc hc2 hc3 hc4
    clear e1 hx
    have HST := hide hst
    clear hst
    have e2 : (((k' + 1 : Nat) : Int) == 0) = false := by simp; omega
    go_enter Tryd.func40, Tryd.ntmps40
    go_wp2
    go_ret
    refine ⟨_, _, _, rfl, ?_, Below.refl _ _⟩
    rw [HE.out]
    exact HST.out

end Go.Proofs.YtmpfkmbfbeejhaaDoor

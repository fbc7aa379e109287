/- A region walked by hand: one operation taken, one skipped. -/
import Derived.Test.YtcclfmapbgdpdaaGreatDoorMg
import Derived.Deep.RegionHeld3
namespace Go.Proofs.YtcclfmapbgdpdaaGreatDoor
open Go.RowKit
set_option linter.unusedVariables false

section
variable {P : Program} {ops : Array Oper} {Q : Exit → Act → World → Prop} {md : Region.Mode} {S : World → Prop}
theorem skipH {fuel : Nat} {listed : Array Bool} {a : Act} {w : World} (i d : Nat) (hw : ∃ oi, ops[i]? = some oi ∧ oi.dst = some d ∧ Region.wanted oi (yielded ops a.tmps) = false)
    (hs : Region.noSelect ops = true) (hf : Region.free md ops listed i = true) (hr : (Region.ready md ops listed).contains i = true)
    (hQ : ∀ c a w, Q (.panic c) (a.put (some d) undef) w → Q (.panic c) a w) (hS : S w)
    (h : wpAnyH P md ops Q S fuel (listed.setIfInBounds i true) (a.put (some d) undef) w) : wpAnyH P md ops Q S (fuel + 1) listed a w := by
  obtain ⟨oi, hi, hd, hn⟩ := hw
  exact wpAnyH_take hi hs hf hr (by rw [hd]; exact hQ) (Or.inr ⟨hn, rfl⟩) hS (by rw [hd]; exact h)
theorem takeH {fuel : Nat} {listed : Array Bool} {a : Act} {w : World} (i d : Nat) (v : Value) (hw : ∃ oi, ops[i]? = some oi ∧ oi.dst = some d ∧ Region.wanted oi (yielded ops a.tmps) = true ∧ ∀ w, S w → (execOp a.eval oi).run P w = .ok (.value v) w)
    (hs : Region.noSelect ops = true) (hf : Region.free md ops listed i = true) (hr : (Region.ready md ops listed).contains i = true)
    (hQ : ∀ c a w, Q (.panic c) (a.put (some d) v) w → Q (.panic c) a w) (hS : S w)
    (h : wpAnyH P md ops Q S fuel (listed.setIfInBounds i true) (a.put (some d) v) w) : wpAnyH P md ops Q S (fuel + 1) listed a w := by
  obtain ⟨oi, hi, hd, hn, hv⟩ := hw
  exact wpAnyH_take hi hs hf hr (by rw [hd]; exact hQ) (Or.inl ⟨hn, hv⟩) hS (by rw [hd]; exact h)
end

end Go.Proofs.YtcclfmapbgdpdaaGreatDoor

/- A row's first part and its rest. -/
import Derived.Test.YtlomloepdnojoaaGreatDoorKind
namespace Go.Proofs.YtlomloepdnojoaaGreatDoor
open Go.RowKit
set_option linter.unusedVariables false

section
variable {α : Type} {K : Kind α} {w : World} {b off n m : Nat} {xs : List α}
theorem rdK_take (h : Rd w (some ⟨b, off, none⟩) n K.size (cK K xs)) (hl : xs.length = n) (hm : m ≤ n) : Rd w (some ⟨b, off, none⟩) m K.size (cK K (xs.take m)) := by
  refine ⟨by rw [cK_len, List.length_take, Nat.min_eq_left (by omega)], fun h0 => ?_⟩
  obtain ⟨b', off', e, hb, hc⟩ := h.2 (by omega)
  refine ⟨b', off', e, hb, fun j u hj => hc j u ?_⟩
  have e1 : cK K xs = cK K (xs.take m) ++ cK K (xs.drop m) := by rw [← cK_append, List.take_append_drop]
  rw [e1, List.getElem?_append_left (List.getElem?_eq_some_iff.1 hj).1]
  exact hj
theorem rdK_drop (h : Rd w (some ⟨b, off, none⟩) n K.size (cK K xs)) (hl : xs.length = n) (hm : m ≤ n) : Rd w (some ⟨b, off + m * K.size, none⟩) (n - m) K.size (cK K (xs.drop m)) := by
  refine ⟨by rw [cK_len, List.length_drop, hl], fun h0 => ?_⟩
  obtain ⟨b', off', e, hb, hc⟩ := h.2 (by omega)
  obtain ⟨rfl, rfl⟩ : b = b' ∧ off = off' := by simpa using e
  refine ⟨b, _, rfl, hb, fun j u hj => ?_⟩
  rw [Nat.add_assoc]
  refine hc (m * K.size + j) u ?_
  have e1 : cK K xs = cK K (xs.take m) ++ cK K (xs.drop m) := by rw [← cK_append, List.take_append_drop]
  have e2 : (cK K (xs.take m)).length = m * K.size := by rw [cK_len, List.length_take, Nat.min_eq_left (by omega)]
  rw [e1, List.getElem?_append_right (by omega), e2, show m * K.size + j - m * K.size = j by omega]
  exact hj
end

end Go.Proofs.YtlomloepdnojoaaGreatDoor

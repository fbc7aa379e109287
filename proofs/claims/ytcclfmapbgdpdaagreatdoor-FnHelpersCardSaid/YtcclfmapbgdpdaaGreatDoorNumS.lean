/- l01Digit, l01Number of the reference. Printed by gen_num.py. -/
import Derived.Test.YtcclfmapbgdpdaaGreatDoorNumZ
namespace Go.Proofs.YtcclfmapbgdpdaaGreatDoor
open Go.RowKit
set_option linter.unusedVariables false

theorem digs_neg {l : List UInt8} (h : isNegL l = true) : digsL l = l.drop 1 := by unfold digsL; rw [if_pos h, List.drop_one]
theorem digs_pos {l : List UInt8} (h : isNegL l = false) : digsL l = l.drop 0 := by unfold digsL; rw [if_neg (by rw [h]; simp)]; rfl
theorem neg_at {l : List UInt8} {c : UInt8} (h : l[0]? = some c) : isNegL l = decide (c = 45) := by
  unfold isNegL; rw [List.head?_eq_getElem?, h]; simp
/-- What is read ahead of place K. -/
def NumTo (l : List UInt8) (a K U : Nat) : Prop := valF 0 ((l.take K).drop a) = U ∧ ((l.take K).drop a).all digN = true ∧ U < 10 ^ (K - a)
theorem num_start (l : List UInt8) (a : Nat) : NumTo l a a 0 := by
  unfold NumTo
  rw [List.drop_eq_nil_of_le (by rw [List.length_take]; omega), Nat.sub_self]
  exact ⟨rfl, rfl, by decide⟩
theorem num_step {l : List UInt8} {a K U : Nat} {c : UInt8} (h : NumTo l a K U) (ha : a ≤ K) (hx : l[K]? = some c) (hc : digN c = true) : NumTo l a (K + 1) (10 * U + (c.toNat - 48)) := by
  have hk := (List.getElem?_eq_some_iff.1 hx).1
  obtain ⟨h1, h2, h3⟩ := h
  have e : (l.take (K + 1)).drop a = (l.take K).drop a ++ [c] := by
    rw [take_snoc hx, List.drop_append_of_le_length (by rw [List.length_take]; omega)]
  have hd := hc
  unfold digN at hd
  rw [Bool.and_eq_true] at hd
  have d2 := of_decide_eq_true hd.2
  unfold NumTo
  rw [e, valF_snoc, h1, List.all_append, h2]
  refine ⟨rfl, by simpa using hc, ?_⟩
  rw [show K + 1 - a = (K - a) + 1 by omega, Nat.pow_succ]
  omega
theorem num_small {l : List UInt8} {a K U : Nat} (h : NumTo l a K U) (hk : K - a ≤ 17) : U < 100000000000000000 := by
  have h1 : 10 ^ (K - a) ≤ 10 ^ 17 := Nat.pow_le_pow_right (by decide) hk
  have e : (10 : Nat) ^ 17 = 100000000000000000 := by decide
  have := h.2.2
  omega
theorem num_small18 {l : List UInt8} {a K U : Nat} (h : NumTo l a K U) (hk : K - a ≤ 18) : U < 1000000000000000000 := by
  have h1 : 10 ^ (K - a) ≤ 10 ^ 18 := Nat.pow_le_pow_right (by decide) hk
  have e : (10 : Nat) ^ 18 = 1000000000000000000 := by decide
  have := h.2.2
  omega
theorem num_bad {l : List UInt8} {a K : Nat} {c : UInt8} (e : digsL l = l.drop a) (ha : a ≤ K) (hx : l[K]? = some c) (hc : digN c = false) : numB l = false ∧ numV l = 0 := by
  have h : (digsL l).all digN = false := by
    rw [e, List.all_eq_false]
    refine ⟨c, ?_, by rw [hc]; simp⟩
    refine List.mem_of_getElem? (i := K - a) ?_
    rw [List.getElem?_drop, show a + (K - a) = K by omega, hx]
  have hb : numB l = false := by unfold numB; rw [h, Bool.and_false]
  exact ⟨hb, numV_bad hb⟩
theorem num_short {l : List UInt8} {a : Nat} (e : digsL l = l.drop a) (h : l.length = a ∨ 18 < l.length - a) : numB l = false ∧ numV l = 0 := by
  have hb : numB l = false := numB_len (by rw [e, List.length_drop]; omega)
  exact ⟨hb, numV_bad hb⟩
theorem num_zero {l : List UInt8} {a : Nat} (e : digsL l = l.drop a) (h : l[a]? = some 48) (hl : 1 < l.length) : numB l = false ∧ numV l = 0 := by
  have hb : numB l = false := by
    unfold numB
    rw [e, List.head?_drop, h, decide_eq_true rfl, decide_eq_true hl]
    simp
  exact ⟨hb, numV_bad hb⟩
theorem num_end {l : List UInt8} {a U : Nat} {c : UInt8} (e : digsL l = l.drop a) (h : NumTo l a l.length U) (ha : a < l.length) (h18 : l.length - a ≤ 18) (hx : l[a]? = some c) (hz : c ≠ 48 ∨ l.length ≤ 1) : numB l = true ∧ numV l = if isNegL l = true then -(U : Int) else (U : Int) := by
  obtain ⟨h1, h2, h3⟩ := h
  rw [List.take_length] at h1 h2
  have hb : numB l = true := by
    unfold numB
    rw [e, List.head?_drop, hx, h2, List.length_drop, decide_eq_true (show 1 ≤ l.length - a by omega), decide_eq_true h18]
    rcases hz with hz | hz
    · rw [decide_eq_false (show ¬ some c = some 48 from fun e => hz (Option.some.inj e))]; rfl
    · rw [decide_eq_false (show ¬ 1 < l.length by omega)]; simp
  refine ⟨hb, ?_⟩
  unfold numV
  rw [if_pos hb, e, h1]


end Go.Proofs.YtcclfmapbgdpdaaGreatDoor

/- Plain words on rows that are known whole (lay), and on the call's own rows by their block. -/
import Derived.Test.YtidhbpnibgegdaaCopyS
namespace Go.Proofs.Ytidhbpnibgegdaa
open Go.RowKit
set_option linter.unusedVariables false

theorem lay_b {α : Type} {A tail S D : List α} {p q r : Nat} (hA : A.length = p) (hS : S.length = q) (hD : D.length = r) (ht : q + r ≤ tail.length) : (lay (lay (A ++ tail) p S) (p + q) D).take (p + q + r) = A ++ S ++ D := by
  have e1 : lay (A ++ tail) p S = (A ++ S) ++ tail.drop q := by
    unfold lay
    rw [List.take_left' hA, hS, List.drop_append, List.drop_eq_nil_of_le (by omega), hA, List.nil_append, List.append_assoc, show p + q - p = q by omega]
  have e2 : (A ++ S ++ tail.drop q).take (p + q) = A ++ S := List.take_left' (by simp; omega)
  rw [e1]
  unfold lay
  rw [e2, ← List.append_assoc, List.take_left' (by simp; omega)]
theorem lay_c {α : Type} {cur A S D : List α} {p q r : Nat} (hA : A.length = p) (hS : S.length = q) (hD : D.length = r) (hcur : cur.take (p + r) = A ++ D) (ht : p + q + r ≤ cur.length) : (lay (lay cur (p + q) D) p S).take (p + q + r) = A ++ S ++ D := by
  have e0 : cur.take p = A := by
    have := congrArg (List.take p) hcur
    rwa [List.take_take, List.take_left' hA, Nat.min_eq_left (by omega)] at this
  have e1 : (lay cur (p + q) D).take p = A := by
    unfold lay
    rw [List.take_append_of_le_length (by simp; omega), List.take_take, Nat.min_eq_left (by omega), e0]
  have e2 : (lay cur (p + q) D).drop (p + q) = D ++ cur.drop (p + q + r) := by
    unfold lay
    rw [List.drop_left' (by simp; omega), hD]
  have e3 : lay (lay cur (p + q) D) p S = (A ++ S ++ D) ++ cur.drop (p + q + r) := by
    rw [lay, e1, hS, e2]
    simp
  rw [e3, List.take_left' (by simp; omega)]
theorem lay_len {α : Type} (L : List α) (off : Nat) (cs : List α) (h : off + cs.length ≤ L.length) : (lay L off cs).length = L.length := by simp [lay]; omega
theorem cell_heap {w : World} {g j : Nat} {cs : List Value} {t : TypeId} {u : Value} (hg : w.heap[g]? = some (.cells cs.toArray t (0, 0))) (hu : cs[j]? = some u) : w.cell? ⟨g, j, none⟩ = some u := by
  simp only [World.cell?, hg]
  simp [hu]
theorem own_at {w : World} {base g n c : Nat} {e : TypeId} {size : Nat} {xs : List Value} (h : w.ownsRow base e size (.slice (some ⟨g, 0, none⟩) n c) n xs) : ∃ cur : List Value, base ≤ g ∧ w.heap[g]? = some (.cells cur.toArray e (0, 0)) ∧ n ≤ c ∧ c ≤ maxLen ∧ cur.length = c * size ∧ cur.take (n * size) = xs := by
  rcases h.2 with ⟨hv, _⟩ | ⟨g', cap', cur, hv, hb, hh, h1, h2, h3, h4⟩
  · cases hv
  · injection hv with hv1 _ hv3
    injection hv1 with hv1
    injection hv1 with hv1
    subst hv1 hv3
    exact ⟨cur.toList, hb, by simpa using hh, h1, h2, by simpa using h3, h4⟩
theorem own_of {w : World} {base g n c : Nat} {e : TypeId} {size : Nat} {xs cur : List Value} (hb : base ≤ g) (hg : w.heap[g]? = some (.cells cur.toArray e (0, 0))) (h1 : n ≤ c) (h2 : c ≤ maxLen) (h3 : cur.length = c * size) (hx : cur.take (n * size) = xs) (hl : xs.length = n * size) : w.ownsRow base e size (.slice (some ⟨g, 0, none⟩) n c) n xs :=
  ⟨hl, .inr ⟨g, c, cur.toArray, rfl, hb, hg, h1, h2, by simpa using h3, by simpa using hx⟩⟩

theorem own_addr2 {w : World} {base : Nat} {e : TypeId} {size n : Nat} {v : Value} {xs : List Value} (h : w.ownsRow base e size v n xs) (hn : 1 ≤ n) : ∃ g c, v = .slice (some ⟨g, 0, none⟩) n c := by
  rcases h.2 with ⟨rfl, rfl⟩ | ⟨g, cap, cur, rfl, _⟩
  · omega
  · exact ⟨g, cap, rfl⟩

end Go.Proofs.Ytidhbpnibgegdaa

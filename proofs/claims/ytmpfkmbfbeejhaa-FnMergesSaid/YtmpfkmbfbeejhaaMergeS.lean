/- l27Conflicts of the reference. -/
import Derived.Test.YtmpfkmbfbeejhaaConfS
import Derived.Laws.StructEq
namespace Go.Proofs.Ytmpfkmbfbeejhaa
open Go.RowKit
set_option linter.unusedVariables false

/-- The three ways in which two settings stand. -/
theorem pair3 (xn yn : ByteArray) (xv yv : Int) : ((⟨xn, xv⟩ : SetZ) = ⟨yn, yv⟩ ∧ (xn.toList == yn.toList) = true ∧ (xv == yv) = true) ∨ ((⟨xn, xv⟩ : SetZ) ≠ ⟨yn, yv⟩ ∧ (xn.toList == yn.toList) = false) ∨ ((⟨xn, xv⟩ : SetZ) ≠ ⟨yn, yv⟩ ∧ (xn.toList == yn.toList) = true ∧ (xv == yv) = false) := by
  by_cases c1 : xn = yn
  · subst c1
    by_cases c2 : xv = yv
    · subst c2; exact .inl ⟨rfl, by simp, by simp⟩
    · exact .inr (.inr ⟨fun h => c2 (congrArg SetZ.value h), by simp, by simpa using c2⟩)
  · exact .inr (.inl ⟨fun h => c1 (congrArg SetZ.name h), (str_ne c1).1⟩)
theorem confB_eq {s0 s1 s2 : List SetZ} (g0 : stateB s0 = true) (g1 : stateB s1 = true) (g2 : stateB s2 = true) {nm : ByteArray} (hn : nm.size ≠ 0) :
    confB s0 s1 s2 nm = (decide (getS s0 nm ≠ getS s1 nm) && decide (getS s0 nm ≠ getS s2 nm) && decide (getS s1 nm ≠ getS s2 nm)) := by
  have h1 := getS_eq g0 g1 hn
  have h2 := getS_eq g0 g2 hn
  have h3 := getS_eq g1 g2 hn
  unfold confB
  rw [Bool.eq_iff_iff]
  simp only [Bool.and_eq_true, decide_eq_true_eq, ne_eq, h1, h2, h3]
  constructor
  · rintro ⟨⟨a, b⟩, c⟩
    exact ⟨⟨fun e => b e.symm, fun e => c e.symm⟩, a⟩
  · rintro ⟨⟨a, b⟩, c⟩
    exact ⟨⟨c, fun e => a e.symm⟩, fun e => b e.symm⟩
theorem names_ne {s0 s1 s2 : List SetZ} (g0 : stateB s0 = true) (g1 : stateB s1 = true) (g2 : stateB s2 = true) {nm : ByteArray} (h : nm ∈ namesZ s0 s1 s2) : nm.size ≠ 0 := by
  rcases namesZ_mem.1 h with h | h | h
  · exact name_ne g0 h
  · exact name_ne g1 h
  · exact name_ne g2 h
theorem names_fine {s0 s1 s2 : List SetZ} (f0 : ∀ s ∈ s0, s.fine) (f1 : ∀ s ∈ s1, s.fine) (f2 : ∀ s ∈ s2, s.fine) : ∀ nm ∈ namesZ s0 s1 s2, kB.fine nm := fun nm h => by
  rcases namesZ_mem.1 h with h | h | h
  · exact fine_of_mem f0 h
  · exact fine_of_mem f1 h
  · exact fine_of_mem f2 h
theorem getS_split (ss : List SetZ) (nm : ByteArray) : ∃ xn xv, getS ss nm = ⟨xn, xv⟩ := ⟨_, _, rfl⟩
theorem conf_no {s0 s1 s2 : List SetZ} {nms : List ByteArray} {k : Nat} {nm : ByteArray} (h : nms[k]? = some nm) (hq : confB s0 s1 s2 nm = false) : (nms.take (k + 1)).filter (confB s0 s1 s2) = (nms.take k).filter (confB s0 s1 s2) := by
  rw [confZ_take h, hq]; simp
theorem conf_yes {s0 s1 s2 : List SetZ} {nms : List ByteArray} {k : Nat} {nm : ByteArray} (h : nms[k]? = some nm) (hq : confB s0 s1 s2 nm = true) : (nms.take (k + 1)).filter (confB s0 s1 s2) = (nms.take k).filter (confB s0 s1 s2) ++ [nm] := by
  rw [confZ_take h, hq]; rfl
/-- Two cells of a new block. -/
theorem box2 {w w' : World} {a b : Value} {e : TypeId} (hb : Below (w.alloc (.cells #[a, b] e)).heap.size (w.alloc (.cells #[a, b] e)) w') : w'.cell? ⟨w.heap.size, 0, none⟩ = some a ∧ w'.cell? ⟨w.heap.size, 1, none⟩ = some b :=
  ⟨(hb.cell (p := ⟨w.heap.size, 0, none⟩) (by simp)).trans (by simp [go_sem]), (hb.cell (p := ⟨w.heap.size, 1, none⟩) (by simp)).trans (by simp [go_sem])⟩

end Go.Proofs.Ytmpfkmbfbeejhaa

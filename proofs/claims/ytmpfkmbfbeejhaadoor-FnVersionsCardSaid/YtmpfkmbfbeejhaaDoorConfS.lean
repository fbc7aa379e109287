/- l27Names, l27Get, l27Conflicts of the reference. -/
import Derived.Test.YtmpfkmbfbeejhaaDoorNamesS
namespace Go.Proofs.YtmpfkmbfbeejhaaDoor
open Go.RowKit
set_option linter.unusedVariables false

/-- What l27Names leaves: the names of all. -/
def NamPost (nms : List ByteArray) (w : World) (e : Ending) (w' : World) : Prop :=
  ∃ v m, e = .returned v ∧ w'.ownsRow w.heap.size 9 1 v m (cK kB nms) ∧ nms.length = m ∧ Below w.heap.size w w'
theorem foldZ_fine {all xs : List SetZ} (h1 : ∀ s ∈ all, s.fine) (h2 : ∀ s ∈ xs, s.fine) : ∀ s ∈ foldZ all xs, s.fine := fun s hs => by
  rcases foldZ_mem hs with h | h
  · exact h1 s h
  · exact h2 s h
theorem fine_take {ss : List SetZ} (h : ∀ s ∈ ss, s.fine) (k : Nat) : ∀ s ∈ ss.take k, s.fine := fun s hs => h s (List.mem_of_mem_take hs)
theorem sorted_nil : SortP ([] : List SetZ) := by simp [SortP]
/-- A row of the call's own, as a state. -/
theorem own_state {w : World} {base n c : Nat} {A : Option Addr} {ss : List SetZ} (h : w.ownsRow base 57 2 (.slice A n c) n (cK kSetting ss)) (hl : ss.length = n) (hx : ∀ s ∈ ss, s.fine) : RdS w A n ss := RdS.of_own h hl hx

/-- The setting of a name, or the empty one. -/
def getS (ss : List SetZ) (nm : ByteArray) : SetZ := match getZ ss nm with | some s => s | none => ⟨⟨#[]⟩, 0⟩
theorem getS_some {ss : List SetZ} (hs : SortedZ ss) {k : Nat} {nm : ByteArray} {v : Int} (h : ss[k]? = some ⟨nm, v⟩) : getS ss nm = ⟨nm, v⟩ := by
  unfold getS; have := getZ_at hs h; simp only at this; rw [this]
theorem getS_none {ss : List SetZ} {nm : ByteArray} (h : hasZ ss nm = false) : getS ss nm = ⟨⟨#[]⟩, 0⟩ := by unfold getS; rw [getZ_none.2 h]
theorem getS_eq {a b : List SetZ} (ha : stateB a = true) (hb : stateB b = true) {nm : ByteArray} (hn : nm.size ≠ 0) : getS a nm = getS b nm ↔ valZ a nm = valZ b nm := by
  unfold getS valZ
  rcases h1 : getZ a nm with _ | x <;> rcases h2 : getZ b nm with _ | y
  · simp
  · have := set_val (state_mem hb (getZ_name h2).2)
    have e := (getZ_name h2).1
    simp only
    constructor
    · intro h3; rw [← e, ← h3] at hn; exact absurd rfl hn
    · intro h3; omega
  · have := set_val (state_mem ha (getZ_name h1).2)
    have e := (getZ_name h1).1
    simp only
    constructor
    · intro h3; rw [← e, h3] at hn; exact absurd rfl hn
    · intro h3; omega
  · have e1 := (getZ_name h1).1
    have e2 := (getZ_name h2).1
    simp only
    constructor
    · rintro rfl; rfl
    · intro h3; cases x; cases y; simp only at e1 e2 h3; subst e1 e2 h3; rfl
theorem getS_ne {ss : List SetZ} (h : stateB ss = true) {nm : ByteArray} (hn : nm.size ≠ 0) : (getS ss nm).name.size ≠ 0 ↔ 0 ≤ valZ ss nm := by
  unfold getS valZ
  rcases h1 : getZ ss nm with _ | x
  · simp; rfl
  · have e := (getZ_name h1).1
    have := set_val (state_mem h (getZ_name h1).2)
    simp only [e]
    exact ⟨fun _ => this.1, fun _ => hn⟩
theorem getS_val {ss : List SetZ} {nm : ByteArray} (h : 0 ≤ valZ ss nm) : getS ss nm = ⟨nm, valZ ss nm⟩ := by
  unfold getS valZ at *
  rcases h1 : getZ ss nm with _ | x
  · rw [h1] at h; simp at h
  · have e := (getZ_name h1).1
    cases x; simp only at e; subst e; rfl
theorem getS_fine {ss : List SetZ} (h : ∀ s ∈ ss, s.fine) (nm : ByteArray) : (getS ss nm).fine := by
  unfold getS
  rcases h1 : getZ ss nm with _ | x
  · exact ⟨by simp only; show (0 : Nat) ≤ _; omega, by simp only; omega, by simp only; omega⟩
  · exact h x (getZ_name h1).2

end Go.Proofs.YtmpfkmbfbeejhaaDoor

/- symMerge of the stable sort, over int64: the whole, by induction on the rows' length. -/
import Derived.Test.YtmpfkmbfbeejhaaSymM
namespace Go.Proofs.Ytmpfkmbfbeejhaa
open Go.Shelf Go.RowKit Go.Lib Go.Sort
set_option linter.unusedVariables false
variable {α : Type} [Inhabited α]

/-- Where the two rows are cut: all of the first halves lie ahead of all of the second. -/
theorem cross {α : Type} {T : α → α → Prop} {L R : List α} {u v : Nat} (tr : ∀ x y z, T x y → T y z → T x z) (hL : L.Pairwise T) (hR : R.Pairwise T)
    (h1 : L.take u = [] ∨ R.drop v = [] ∨ ∃ q x y, u = q + 1 ∧ L[q]? = some x ∧ R[v]? = some y ∧ T x y)
    (h2 : L.drop u = [] ∨ R.take v = [] ∨ ∃ q x y, v = q + 1 ∧ L[u]? = some x ∧ R[q]? = some y ∧ T y x) :
    ∀ x ∈ L.take u ++ R.take v, ∀ z ∈ L.drop u ++ R.drop v, T x z := by
  have own : ∀ (A : List α) (k : Nat), A.Pairwise T → ∀ x ∈ A.take k, ∀ z ∈ A.drop k, T x z := fun A k hA x hx z hz => by
    rw [← List.take_append_drop k A] at hA
    exact (List.pairwise_append.1 hA).2.2 x hx z hz
  intro x hx z hz
  rcases List.mem_append.1 hx with hx1 | hx1 <;> rcases List.mem_append.1 hz with hz1 | hz1 <;> clear hx hz
  · exact own L u hL x hx1 z hz1
  · rcases h1 with h | h | ⟨q, x', y', rfl, hq, hv, ht⟩
    · rw [h] at hx1; cases hx1
    · rw [h] at hz1; cases hz1
    · have a1 : ∀ z ∈ L.take (q + 1), T z y' := take_all tr hL hq ht
      exact drop_all tr hR hv (a1 x hx1) z hz1
  · rcases h2 with h | h | ⟨q, x', y', rfl, hu, hq, ht⟩
    · rw [h] at hz1; cases hz1
    · rw [h] at hx1; cases hx1
    · have a1 : ∀ y ∈ R.take (q + 1), T y x' := take_all tr hR hq ht
      exact drop_all tr hL hu (a1 x hx1) z hz1
  · exact own R v hR x hx1 z hz1

/-- Two merged halves make one merged row. -/
theorem join_two {α : Type} {T : α → α → Prop} {L R M1 M2 : List α} {u v : Nat} (hC : ∀ x ∈ L.take u ++ R.take v, ∀ z ∈ L.drop u ++ R.drop v, T x z)
    (p1 : M1.Perm (L.take u ++ R.take v)) (p2 : M2.Perm (L.drop u ++ R.drop v)) (s1 : M1.Pairwise T) (s2 : M2.Pairwise T) : (M1 ++ M2).Pairwise T ∧ (M1 ++ M2).Perm (L ++ R) := by
  refine ⟨List.pairwise_append.2 ⟨s1, s2, fun x hx z hz => hC x (p1.mem_iff.1 hx) z (p2.mem_iff.1 hz)⟩, (p1.append p2).trans ?_⟩
  have h1 : (L.take u ++ R.take v ++ (L.drop u ++ R.drop v)).Perm (L.take u ++ L.drop u ++ (R.take v ++ R.drop v)) := by
    simp only [List.append_assoc]
    refine List.Perm.append_left _ ?_
    simp only [← List.append_assoc]
    exact List.Perm.append_right _ List.perm_append_comm
  simpa only [List.take_append_drop] using h1

/-- What the call on a shorter pair of rows gives. -/
def Sub (enc : α → Value) (g : Nat) (cb : Array Value) (blk off cap : Nat) (w0 : World) (T E : α → α → Prop) (sz N : Nat) : Prop :=
  ∀ (d : Array α) (w : World) (P L R S : List α) (a m b : Nat), L.length + R.length < N → d.size = sz → SW enc w0 blk off d w → d.toList = P ++ L ++ R ++ S → L ≠ [] → R ≠ [] → L.Pairwise T → R.Pairwise T → (∀ x ∈ L, ∀ y ∈ R, E x y) →
    a = P.length → m = a + L.length → b = m + R.length → Calls Try.prog 105 #[.slice (some ⟨blk, off, none⟩) sz cap, .int .i64 a, .int .i64 m, .int .i64 b, .func (.func g) #[] cb] w (MrgPost enc w0 blk off T P L R S d)

end Go.Proofs.Ytmpfkmbfbeejhaa

/- Plain: days in the order of their numbers; rows that are merged by halves. -/
import Derived.Test.YtmpfkmbfbeejhaaBase
namespace Go.Proofs.Ytmpfkmbfbeejhaa
open Go.RowKit
set_option linter.unusedVariables false

/-- The number of a day. -/
def valI (vs : List Int) (x : Int) : Int := vs.getD x.toNat 0
/-- Day x is ahead of day y: it has a greater number, or the same one and is earlier. -/
def Ahd (vs : List Int) (x y : Int) : Prop := valI vs y < valI vs x ∨ (valI vs y = valI vs x ∧ x < y)
theorem ahd_trans {vs : List Int} {x y z : Int} (h : Ahd vs x y) (k : Ahd vs y z) : Ahd vs x z := by
  unfold Ahd at *; omega
theorem ahd_irrefl (vs : List Int) (x : Int) : ¬ Ahd vs x x := by unfold Ahd; omega
theorem ahd_total {vs : List Int} {x y : Int} (h : x ≠ y) : Ahd vs x y ∨ Ahd vs y x := by unfold Ahd; omega
theorem ahd_asymm {vs : List Int} {x y : Int} (h : Ahd vs x y) : ¬ Ahd vs y x := by unfold Ahd at *; omega
/-- What the comparer answers of a later and an earlier day. -/
theorem ahd_yes {vs : List Int} {x y : Int} (h : valI vs y < valI vs x) : Ahd vs x y := .inl h
theorem ahd_no {vs : List Int} {x y : Int} (h : ¬ valI vs y < valI vs x) (hx : y < x) : Ahd vs y x := by unfold Ahd; omega

section
variable {vs : List Int}
theorem last_or {L : List Int} {x l : Int} (h : (L ++ [l]).Pairwise (Ahd vs)) (hx : x ∈ L ++ [l]) : x = l ∨ Ahd vs x l := by
  rcases List.mem_append.1 hx with hx | hx
  · exact .inr ((List.pairwise_append.1 h).2.2 x hx l (by simp))
  · exact .inl (by simpa using hx)
theorem head_or {L : List Int} {y l : Int} (h : (l :: L).Pairwise (Ahd vs)) (hy : y ∈ l :: L) : y = l ∨ Ahd vs l y := by
  rcases List.mem_cons.1 hy with hy | hy
  · exact .inl hy
  · exact .inr ((List.pairwise_cons.1 h).1 y hy)
/-- All of a row are ahead of all of another one, if its last is ahead of the other's first. -/
theorem all_ahd {A B : List Int} (hA : A.Pairwise (Ahd vs)) (hB : B.Pairwise (Ahd vs)) (h : ∀ x y, A.getLast? = some x → B.head? = some y → Ahd vs x y) : ∀ x ∈ A, ∀ y ∈ B, Ahd vs x y := by
  intro x hx y hy
  rcases List.eq_nil_or_concat A with rfl | ⟨A', l, rfl⟩
  · simp at hx
  cases B with
  | nil => simp at hy
  | cons b B =>
    rw [List.concat_eq_append] at *
    have h1 := h l b (by simp) rfl
    rcases last_or hA hx with rfl | h2
    · rcases head_or hB hy with rfl | h3
      · exact h1
      · exact ahd_trans h1 h3
    · rcases head_or hB hy with rfl | h3
      · exact ahd_trans h2 h1
      · exact ahd_trans (ahd_trans h2 h1) h3
/-- What the search by halves finds: two halves, of which all of one are ahead of all of the other. -/
theorem halves_ahd {L1 L2 R1 R2 : List Int} (hL : (L1 ++ L2).Pairwise (Ahd vs)) (hR : (R1 ++ R2).Pairwise (Ahd vs))
    (h1 : ∀ x y, L1.getLast? = some x → R2.head? = some y → Ahd vs x y) (h2 : ∀ x y, R1.getLast? = some x → L2.head? = some y → Ahd vs x y) : ∀ x ∈ L1 ++ R1, ∀ y ∈ L2 ++ R2, Ahd vs x y := by
  obtain ⟨a1, a2, a3⟩ := List.pairwise_append.1 hL
  obtain ⟨b1, b2, b3⟩ := List.pairwise_append.1 hR
  have c1 := all_ahd a1 b2 h1
  have c2 := all_ahd b1 a2 h2
  intro x hx y hy
  rcases List.mem_append.1 hx with hx | hx <;> rcases List.mem_append.1 hy with hy | hy
  · exact a3 x hx y hy
  · exact c1 x hx y hy
  · exact c2 x hx y hy
  · exact b3 x hx y hy
theorem join_ahd {L1 L2 R1 R2 M N : List Int} (hM : M.Pairwise (Ahd vs)) (hN : N.Pairwise (Ahd vs)) (pM : M.Perm (L1 ++ R1)) (pN : N.Perm (L2 ++ R2)) (h : ∀ x ∈ L1 ++ R1, ∀ y ∈ L2 ++ R2, Ahd vs x y) :
    (M ++ N).Pairwise (Ahd vs) ∧ (M ++ N).Perm ((L1 ++ L2) ++ (R1 ++ R2)) := by
  refine ⟨List.pairwise_append.2 ⟨hM, hN, fun x hx y hy => h x (pM.mem_iff.1 hx) y (pN.mem_iff.1 hy)⟩, ?_⟩
  refine (pM.append pN).trans ?_
  rw [List.append_assoc, List.append_assoc]
  refine List.Perm.append_left L1 ?_
  rw [← List.append_assoc, ← List.append_assoc]
  exact List.Perm.append_right R2 List.perm_append_comm
/-- One number put into a row. -/
theorem ins_ahd {A B : List Int} {x : Int} (hA : (A ++ B).Pairwise (Ahd vs)) (h1 : ∀ y, A.getLast? = some y → Ahd vs y x) (h2 : ∀ y, B.head? = some y → Ahd vs x y) : (A ++ x :: B).Pairwise (Ahd vs) := by
  obtain ⟨a1, a2, a3⟩ := List.pairwise_append.1 hA
  have c1 := all_ahd (vs := vs) a1 (B := [x]) (by simp) (by intro a b ha hb; simp at hb; subst hb; exact h1 a ha)
  have c2 := all_ahd (vs := vs) (A := [x]) (by simp) a2 (by intro a b ha hb; simp at ha; subst ha; exact h2 b hb)
  refine List.pairwise_append.2 ⟨a1, List.pairwise_cons.2 ⟨fun y hy => c2 x (by simp) y hy, a2⟩, ?_⟩
  intro y hy z hz
  rcases List.mem_cons.1 hz with rfl | hz
  · exact c1 y hy z (by simp)
  · exact a3 y hy z hz
end

/-! ### rows that are turned round -/
theorem set_mid {α : Type} (A B : List α) (x y : α) {k : Nat} (hk : k = A.length) : (A ++ x :: B).set k y = A ++ y :: B := by
  subst hk
  rw [List.set_append_right _ _ (Nat.le_refl _), Nat.sub_self, List.set_cons_zero]
theorem at_mid {α : Type} (A B : List α) (x : α) {k : Nat} (hk : k = A.length) : (A ++ x :: B)[k]? = some x := by
  subst hk
  rw [List.getElem?_append_right (Nat.le_refl _), Nat.sub_self]; rfl
/-- A row cut at a place within it. -/
theorem cut_at {α : Type} (xs : List α) {k : Nat} (h : k < xs.length) : ∃ A x B, xs = A ++ x :: B ∧ A.length = k :=
  ⟨xs.take k, xs[k], xs.drop (k + 1), by rw [List.getElem_cons_drop, List.take_append_drop], by rw [List.length_take]; omega⟩
theorem cut_two {α : Type} (xs : List α) {k : Nat} (h : k ≤ xs.length) : ∃ A B, xs = A ++ B ∧ A.length = k :=
  ⟨xs.take k, xs.drop k, by rw [List.take_append_drop], by rw [List.length_take]; omega⟩

end Go.Proofs.Ytmpfkmbfbeejhaa

/- Plain: the laws of histories. -/
import Derived.Test.YtmpfkmbfbeejhaaDoorCommitState
import Derived.Test.YtmpfkmbfbeejhaaDoorStOf
import Derived.Test.YtmpfkmbfbeejhaaDoorCommon
import Derived.Test.YtmpfkmbfbeejhaaDoorMg
import Derived.Test.YtmpfkmbfbeejhaaDoorHeads
namespace Go.Proofs.YtmpfkmbfbeejhaaDoor
open Go.RowKit
set_option linter.unusedVariables false

theorem lineV_desc {vs : List VerZ} (h : histB vs = true) : ∀ k, (lineV vs k).Pairwise (fun a b => b < a) := by
  intro k
  induction k using Nat.strongRecOn with
  | _ k ih =>
    rcases Nat.eq_zero_or_pos k with h0 | h0
    · subst h0; rw [lineV_zero]; exact List.Pairwise.nil
    · obtain ⟨j, rfl⟩ : ∃ j, k = j + 1 := ⟨k - 1, by omega⟩
      rw [lineV_step h]
      have hp := par_lt h j
      refine List.pairwise_cons.2 ⟨fun x hx => ?_, ih _ (by omega)⟩
      have := lineV_mem h _ x hx
      omega
theorem firstIn_max {xs ys : List Int} (hx : xs.Pairwise (fun a b => b < a)) : (firstIn xs ys = 0 ∧ ∀ x ∈ xs, x ∉ ys) ∨ (firstIn xs ys ∈ xs ∧ firstIn xs ys ∈ ys ∧ ∀ x ∈ xs, x ∈ ys → x ≤ firstIn xs ys) := by
  unfold firstIn
  induction xs with
  | nil => exact .inl ⟨rfl, by simp⟩
  | cons a xs ih =>
    rw [List.pairwise_cons] at hx
    by_cases ha : a ∈ ys
    · refine .inr ?_
      rw [List.find?_cons_of_pos (by simpa using ha)]
      refine ⟨by simp, by simpa using ha, fun x hx' _ => ?_⟩
      rcases List.mem_cons.1 hx' with rfl | e
      · simp
      · have := hx.1 x e; simp; omega
    · rw [List.find?_cons_of_neg (by simpa using ha)]
      rcases ih hx.2 with ⟨h1, h2⟩ | ⟨h1, h2, h3⟩
      · exact .inl ⟨h1, fun x hx' => by
          rcases List.mem_cons.1 hx' with rfl | e
          · exact ha
          · exact h2 x e⟩
      · exact .inr ⟨List.mem_cons_of_mem _ h1, h2, fun x hx' hy => by
          rcases List.mem_cons.1 hx' with rfl | e
          · exact absurd hy ha
          · exact h3 x e hy⟩
theorem firstIn_comm {xs ys : List Int} (hx : xs.Pairwise (fun a b => b < a)) (hy : ys.Pairwise (fun a b => b < a)) : firstIn xs ys = firstIn ys xs := by
  rcases firstIn_max (ys := ys) hx with ⟨h1, h2⟩ | ⟨h1, h2, h3⟩ <;> rcases firstIn_max (ys := xs) hy with ⟨k1, k2⟩ | ⟨k1, k2, k3⟩
  · rw [h1, k1]
  · exact absurd k1 (h2 _ k2)
  · exact absurd h1 (k2 _ h2)
  · have a := h3 _ k2 k1
    have b := k3 _ h2 h1
    omega
theorem comV_comm {vs : List VerZ} (h : histB vs = true) (a b : Nat) : comV vs a b = comV vs b a := firstIn_comm (lineV_desc h a) (lineV_desc h b)
theorem comV_low {vs : List VerZ} (h : histB vs = true) (a b : Nat) : 0 ≤ comV vs a b ∧ comV vs a b ≤ a ∧ comV vs a b ≤ b := by
  rcases firstIn_max (ys := lineV vs b) (lineV_desc h a) with ⟨h1, _⟩ | ⟨h1, h2, _⟩
  · unfold comV; rw [h1]; omega
  · have e1 := lineV_mem h a _ h1
    have e2 := lineV_mem h b _ h2
    unfold comV
    omega
theorem verK_app {vs : List VerZ} {v : VerZ} {k : Nat} (hk : k < vs.length) : verKB (vs ++ [v]) k = verKB vs k := by
  unfold verKB
  rw [List.getElem?_append_left hk]
/-- A history with a further version. -/
theorem hist_add {vs : List VerZ} {pa : Int} {me : ByteArray} {st : List SetZ} (h : histB vs = true) (hp : withinB pa 0 vs.length = true) (hm : memoB me = true) (hs : stateB st = true) (hl : vs.length < 32) : histB (vs ++ [⟨(vs.length : Int) + 1, pa, me, st⟩]) = true := by
  unfold histB at h ⊢
  rw [Bool.and_eq_true, List.all_eq_true] at h ⊢
  refine ⟨fun k hk => ?_, decide_eq_true (by simp; omega)⟩
  have hk' : k < vs.length + 1 := by simpa using hk
  by_cases hlt : k < vs.length
  · rw [verK_app hlt]
    exact h.1 k (by simpa using hlt)
  · obtain rfl : k = vs.length := by omega
    unfold verKB
    rw [List.getElem?_append_right (Nat.le_refl _), Nat.sub_self, List.getElem?_cons_zero]
    simp only
    rw [hp, hm, hs]
    simp
theorem hist_nil : histB [] = true := by decide
/-- The parents of a history with a further version. -/
theorem par_new {vs : List VerZ} {v : VerZ} : parN (vs ++ [v]) (vs.length + 1) = v.parent.toNat := by
  unfold parN
  rw [Nat.add_sub_cancel, List.getElem?_append_right (Nat.le_refl _), Nat.sub_self, List.getElem?_cons_zero]
theorem line_new {vs : List VerZ} {v : VerZ} (h : histB (vs ++ [v]) = true) : lineV (vs ++ [v]) (vs.length + 1) = ((vs.length + 1 : Nat) : Int) :: lineV (vs ++ [v]) v.parent.toNat := by
  rw [lineV_step h, par_new]
theorem line_head {vs : List VerZ} (h : histB vs = true) {k : Nat} (hk : 1 ≤ k) : (k : Int) ∈ lineV vs k := by
  obtain ⟨j, rfl⟩ : ∃ j, k = j + 1 := ⟨k - 1, by omega⟩
  rw [lineV_step h]; simp
theorem com_self {vs : List VerZ} (h : histB vs = true) {k : Nat} (hk : 1 ≤ k) : comV vs k k = k := by
  obtain ⟨j, rfl⟩ : ∃ j, k = j + 1 := ⟨k - 1, by omega⟩
  unfold comV firstIn
  rw [lineV_step h, List.find?_cons_of_pos (by simp)]
  rfl
/-- The last version is a head. -/
theorem head_new {vs : List VerZ} (h : histB vs = true) {n : Nat} (hn : vs.length = n) (h1 : 1 ≤ n) : (n : Int) ∈ headsK vs n := by
  unfold headsK
  rw [List.take_of_length_le (by omega), List.mem_filter]
  have e := List.getElem?_eq_getElem (l := vs) (i := n - 1) (by omega)
  have hv := hist_at h e
  refine ⟨List.mem_map.2 ⟨vs[n - 1], List.getElem_mem _, by omega⟩, ?_⟩
  unfold headB
  rw [Bool.not_eq_true', List.any_eq_false]
  intro v hv2
  obtain ⟨k, hk⟩ := List.mem_iff_getElem?.1 hv2
  have hkl := (List.getElem?_eq_some_iff.1 hk).1
  have := hist_at h hk
  simp only [decide_eq_true_eq]
  omega

end Go.Proofs.YtmpfkmbfbeejhaaDoor

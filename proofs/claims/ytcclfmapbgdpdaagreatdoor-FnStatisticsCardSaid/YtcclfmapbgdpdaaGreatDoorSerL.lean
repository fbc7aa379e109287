/- Plain: a series that is written is read back. -/
import Derived.Test.YtcclfmapbgdpdaaGreatDoorReadSe
import Derived.Test.YtcclfmapbgdpdaaGreatDoorDecL
namespace Go.Proofs.YtcclfmapbgdpdaaGreatDoor
open Go.RowKit
set_option linter.unusedVariables false

/-- What SeriesText writes of a series ReadSeries reads. -/
theorem ser_back {xs : List Int} (h : okSer xs = true) : rsC (serV xs) = true ∧ rsV (serV xs) = xs := by
  have ho := h
  unfold okSer at h
  rw [Bool.and_eq_true, Bool.and_eq_true] at h
  have h1 := of_decide_eq_true h.1.1
  have hx : ∀ x ∈ xs, 0 ≤ x ∧ x ≤ 1000000 := fun x hx => withinB_iff.1 (List.all_eq_true.1 h.2 x hx)
  have hs : serV xs = serT xs := by unfold serV; rw [if_pos ho]
  have hne : xs ≠ [] := by intro e; rw [e] at h1; simp at h1
  have hm : (splitS 32 (serT xs)).map bs = xs.map Lib.itoa := by
    rw [split_bs]
    unfold serT
    rw [bs_joinS, List.map_map]
    have e : (xs.map (bs ∘ decZ)) = xs.map Lib.itoa := List.map_congr_left fun x _ => bs_decZ x
    rw [e]
    exact split_join (by simpa using hne) (fun y hy => by obtain ⟨x, _, rfl⟩ := List.mem_map.1 hy; exact itoa_no x)
  have hv : numsZ (splitS 32 (serT xs)) = xs := by
    have e : numsZ (splitS 32 (serT xs)) = ((splitS 32 (serT xs)).map bs).map numV := by unfold numsZ; rw [List.map_map]; rfl
    rw [e, hm, List.map_map]
    conv => rhs; rw [← List.map_id xs]
    exact List.map_congr_left fun x hx' => (num_itoa (hx x hx').1 (hx x hx').2).2
  have hb : (splitS 32 (serT xs)).all (fun w => numB (bs w)) = true := by
    have e : (splitS 32 (serT xs)).all (fun w => numB (bs w)) = ((splitS 32 (serT xs)).map bs).all numB := by rw [List.all_map]; rfl
    rw [e, hm, List.all_map, List.all_eq_true]
    intro x hx'
    exact (num_itoa (hx x hx').1 (hx x hx').2).1
  rw [hs]
  have hr := rs_good (s := serT xs) (by rw [hb, hv, ho]; rfl)
  exact ⟨hr.1, by rw [hr.2, hv]⟩
theorem ser_small {xs : List Int} (h : okSer xs = true) : (serV xs).size ≤ 480 := by
  have hs : serV xs = serT xs := by unfold serV; rw [if_pos h]
  unfold okSer at h
  rw [Bool.and_eq_true, Bool.and_eq_true] at h
  have h60 := of_decide_eq_true h.1.2
  have hj := join_len 32 7 ((xs.map decZ).map bs) (by
    intro l hl
    rw [List.map_map] at hl
    obtain ⟨x, hx, rfl⟩ := List.mem_map.1 hl
    have hb := withinB_iff.1 (List.all_eq_true.1 h.2 x hx)
    obtain ⟨u, rfl⟩ : ∃ u : Nat, x = (u : Int) := ⟨x.toNat, by omega⟩
    have e : (bs ∘ decZ) (u : Int) = Lib.decDigits u := by show bs (decZ u) = _; rw [bs_decZ, itoa_nat]
    rw [e]
    exact (dec_long 6 u (by omega)).2)
  rw [hs, ← bs_len]
  unfold serT
  rw [bs_joinS]
  rw [List.length_map, List.length_map] at hj
  omega

end Go.Proofs.YtcclfmapbgdpdaaGreatDoor

/- Plain: the laws of filled gaps that FnStatistics asks. -/
import Derived.Test.YtcclfmapbgdpdaaGreatDoorGaps
namespace Go.Proofs.YtcclfmapbgdpdaaGreatDoor
set_option linter.unusedVariables false

theorem near_mono {a a' b : Int} (hb : 0 < b) (h : a ≤ a') : nearZ a b ≤ nearZ a' b := by
  unfold nearZ
  by_cases h0 : 0 ≤ a
  · rw [if_pos h0, if_pos (by omega)]
    exact Int.ediv_le_ediv (by omega) (by omega)
  · rw [if_neg h0]
    have h1 : 0 ≤ (b - 2 * a) / (2 * b) := Int.ediv_nonneg (by omega) (by omega)
    by_cases h2 : 0 ≤ a'
    · rw [if_pos h2]
      have h3 : 0 ≤ (2 * a' + b) / (2 * b) := Int.ediv_nonneg (by omega) (by omega)
      omega
    · rw [if_neg h2]
      have h3 : (b - 2 * a') / (2 * b) ≤ (b - 2 * a) / (2 * b) := Int.ediv_le_ediv (by omega) (by omega)
      omega
theorem near_whole (u b : Int) (hb : 0 < b) : nearZ (u * b) b = u := by
  have key : ∀ v : Int, (2 * (v * b) + b) / (2 * b) = v := fun v => by
    rw [show 2 * (v * b) + b = b + (2 * b) * v by rw [Int.mul_assoc 2 b v, Int.mul_comm b v]; omega, Int.add_mul_ediv_left _ _ (by omega), Int.ediv_eq_zero_of_lt (by omega) (by omega), Int.zero_add]
  unfold nearZ
  split
  · exact key u
  · have := key (-u)
    rw [Int.neg_mul] at this
    rw [show b - 2 * (u * b) = 2 * -(u * b) + b by omega, this, Int.neg_neg]
theorem near_nil (b : Int) (hb : 0 < b) : nearZ 0 b = 0 := by
  have := near_whole 0 b hb
  rwa [Int.zero_mul] at this

/-- What stands at j between the given places l and h. -/
def valZ (xs : List Int) (l h j : Int) : Int :=
  if l < 0 then xs.getD h.toNat 0
  else if h = xs.length then xs.getD l.toNat 0
  else xs.getD l.toNat 0 + nearZ ((xs.getD h.toNat 0 - xs.getD l.toNat 0) * (j - l)) (h - l)
theorem fill_val (xs ms : List Int) (i : Nat) : fillZ xs ms i = valZ xs (lowZ ms (i + 1)) (higZ ms xs.length (xs.length - i)) i := rfl
theorem val_low {xs : List Int} {l : Nat} {h : Int} (hlh : (l : Int) < h) : valZ xs l h l = xs.getD l 0 := by
  unfold valZ
  rw [if_neg (by omega), Int.toNat_natCast, Int.sub_self, Int.mul_zero, near_nil _ (by omega), Int.add_zero]
  split <;> rfl
theorem val_high {xs : List Int} {h : Nat} {l : Int} (hh : h < xs.length) (hlh : l < (h : Int)) : valZ xs l h h = xs.getD h 0 := by
  unfold valZ
  rw [if_neg (show ¬ (h : Int) = xs.length by omega), Int.toNat_natCast, near_whole _ _ (by omega)]
  split
  · rfl
  · omega
theorem val_mono (xs : List Int) (l h : Int) (hlh : l < h) : (∀ j j' : Int, j ≤ j' → valZ xs l h j ≤ valZ xs l h j') ∨ (∀ j j' : Int, j ≤ j' → valZ xs l h j' ≤ valZ xs l h j) := by
  unfold valZ
  by_cases h1 : l < 0
  · exact .inl fun j j' _ => by rw [if_pos h1, if_pos h1]; exact Int.le_refl _
  by_cases h2 : h = xs.length
  · exact .inl fun j j' _ => by rw [if_neg h1, if_pos h2, if_neg h1, if_pos h2]; exact Int.le_refl _
  simp only [if_neg h1, if_neg h2]
  generalize xs.getD h.toNat 0 - xs.getD l.toNat 0 = u
  by_cases hu : 0 ≤ u
  · refine .inl fun j j' hj => ?_
    have := near_mono (b := h - l) (by omega) (Int.mul_le_mul_of_nonneg_left (show j - l ≤ j' - l by omega) hu)
    omega
  · refine .inr fun j j' hj => ?_
    have h3 := Int.mul_le_mul_of_nonneg_left (show j - l ≤ j' - l by omega) (show 0 ≤ -u by omega)
    rw [Int.neg_mul, Int.neg_mul] at h3
    have := near_mono (a := u * (j' - l)) (a' := u * (j - l)) (b := h - l) (by omega) (by omega)
    omega

theorem fillP_at {xs ms : List Int} {j : Nat} (hj : j < xs.length) : (fillP xs ms (fun j => decide ((j : Int) ∈ ms))).getD j 0 = if (j : Int) ∈ ms then fillZ xs ms j else xs.getD j 0 := by
  unfold fillP
  rw [List.getD_eq_getElem?_getD, List.getElem?_mapIdx, List.getElem?_eq_getElem hj, List.getD_eq_getElem?_getD, List.getElem?_eq_getElem hj]
  simp
/-- What is filled lies between its neighbours. -/
theorem gap_law {xs ms : List Int} {p : Nat} (hi : p + 2 < xs.length) (hm : ((p + 1 : Nat) : Int) ∈ ms) :
    ∃ a b c : Int, (fillP xs ms (fun j => decide ((j : Int) ∈ ms))).getD p 0 = a ∧ (fillP xs ms (fun j => decide ((j : Int) ∈ ms))).getD (p + 1) 0 = b ∧ (fillP xs ms (fun j => decide ((j : Int) ∈ ms))).getD (p + 2) 0 = c ∧ ((a ≤ b ∧ b ≤ c) ∨ (c ≤ b ∧ b ≤ a)) := by
  obtain ⟨n, hn⟩ : ∃ n, n = xs.length := ⟨_, rfl⟩
  obtain ⟨l, hl⟩ : ∃ l, l = lowZ ms (p + 1 + 1) := ⟨_, rfl⟩
  obtain ⟨h, hh⟩ : ∃ h, h = higZ ms n (n - (p + 1)) := ⟨_, rfl⟩
  have l1 := lowZ_yes hm
  have h1 := higZ_yes (n := n) (k := p + 1) (by omega) hm
  have lb := lowZ_bd ms (p + 1)
  have hb := higZ_bd ms n (n - (p + 1 + 1)) (by omega)
  have hlh : l < h := by omega
  have e1 : (fillP xs ms (fun j => decide ((j : Int) ∈ ms))).getD (p + 1) 0 = valZ xs l h ((p + 1 : Nat) : Int) := by
    rw [fillP_at (by omega), if_pos hm, fill_val, ← hn, ← hl, ← hh]
  have e0 : (fillP xs ms (fun j => decide ((j : Int) ∈ ms))).getD p 0 = valZ xs l h (p : Int) := by
    rw [fillP_at (by omega)]
    by_cases hp : (p : Int) ∈ ms
    · rw [if_pos hp, fill_val, ← hn, higZ_yes (n := n) (k := p) (by omega) hp, ← hh, ← l1, ← hl]
    · rw [if_neg hp]
      have : l = (p : Int) := by rw [hl, l1, lowZ_no hp]
      rw [this] at hlh ⊢
      exact (val_low hlh).symm
  have e2 : (fillP xs ms (fun j => decide ((j : Int) ∈ ms))).getD (p + 2) 0 = valZ xs l h ((p + 2 : Nat) : Int) := by
    rw [fillP_at (by omega)]
    by_cases hp : ((p + 2 : Nat) : Int) ∈ ms
    · rw [if_pos hp, fill_val, ← hn, lowZ_yes hp, ← hl, ← h1, ← hh]
    · rw [if_neg hp]
      have : h = ((p + 2 : Nat) : Int) := by rw [hh, h1, higZ_no (by omega) hp]
      rw [this] at hlh ⊢
      exact (val_high (by omega) hlh).symm
  refine ⟨_, _, _, e0, e1, e2, ?_⟩
  rcases val_mono xs l h hlh with hv | hv
  · exact .inl ⟨hv _ _ (by omega), hv _ _ (by omega)⟩
  · exact .inr ⟨hv _ _ (by omega), hv _ _ (by omega)⟩
theorem gap_keep {xs ms : List Int} {j : Nat} (hj : j < xs.length) (hm : ¬ (j : Int) ∈ ms) : (fillP xs ms (fun j => decide ((j : Int) ∈ ms))).getD j 0 = xs.getD j 0 := by
  rw [fillP_at hj, if_neg hm]

end Go.Proofs.YtcclfmapbgdpdaaGreatDoor

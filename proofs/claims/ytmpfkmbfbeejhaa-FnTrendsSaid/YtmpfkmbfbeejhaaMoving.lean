/- kept, and MovingMeans of the program and of the reference. -/
import Derived.Test.YtmpfkmbfbeejhaaMean
import Derived.Test.YtmpfkmbfbeejhaaFresh
import Derived.Test.YtmpfkmbfbeejhaaHelpI
namespace Go.Proofs.Ytmpfkmbfbeejhaa
open Go.RowKit
set_option linter.unusedVariables false

/-- The first error of a series and of something about numbers. -/
def keptC (xs : List Int) (fine : Bool) : Int := if okSer xs then (if fine then 0 else 2) else 1
theorem kept_cases (xs : List Int) (fine : Bool) : (okSer xs = false ∧ keptC xs fine = 1) ∨ (okSer xs = true ∧ fine = false ∧ keptC xs fine = 2) ∨ (okSer xs = true ∧ fine = true ∧ keptC xs fine = 0) := by
  unfold keptC
  cases okSer xs <;> cases fine <;> simp

theorem kept_calls (A : Option Addr) (n c : Nat) (xs : List Int) (fine : Bool) (w : World) (h : RdI w A n xs) (hn : n ≤ 1048576) :
    Calls Try.prog 43 #[.slice A n c, .bool fine] w fun e w' => e = .returned (.int .i64 (keptC xs fine)) ∧ w = w' := by
  rcases kept_cases xs fine with ⟨h1, h3⟩ | ⟨h1, rfl, h3⟩ | ⟨h1, rfl, h3⟩
  all_goals
    have H3 := hide h3
    clear h3
    go_enter Try.func43, Try.ntmps43
    go_wp2_with (go_at_call 53; refine (implValidSeries_calls _ _ _ _ _ h hn).mono ?_; rintro e w' ⟨rfl, rfl⟩)
    go_ret
    exact ⟨ret_int H3.out.symm, rfl⟩

/-- A part of a list. -/
theorem RdI.cut {w : World} {b off n k m : Nat} {xs : List Int} (h : RdI w (some ⟨b, off, none⟩) n xs) (hk : k + m ≤ n) : RdI w (some ⟨b, off + k, none⟩) m ((xs.drop k).take m) := by
  have hl := h.len
  refine ⟨⟨by simp [cI]; omega, fun hm => ?_⟩, fun x hx => h.2 x (List.mem_of_mem_drop (List.mem_of_mem_take hx))⟩
  obtain ⟨b', off', e, hb, hcell⟩ := h.1.2 (by omega)
  obtain ⟨rfl, rfl⟩ : b = b' ∧ off = off' := by simpa using e
  refine ⟨b, off + k, rfl, hb, fun j u hu => ?_⟩
  have hj : j < m := by
    have := (List.getElem?_eq_some_iff.1 hu).1
    simp [cI] at this
    omega
  rw [Nat.add_assoc]
  refine hcell (k + j) u ?_
  rw [← hu]
  simp [cI, hj]
theorem Small.part {xs : List Int} (h : Small xs) (k m : Nat) : Small ((xs.drop k).take m) := fun x hx => h x (List.mem_of_mem_drop (List.mem_of_mem_take hx))
theorem meanZ_bd {xs : List Int} (h : ∀ x ∈ xs, 0 ≤ x ∧ x ≤ 1000000) (hn : xs ≠ []) : 0 ≤ meanZ xs ∧ meanZ xs ≤ 1000000 := by
  have h1 := sumZ_bd 0 1000000 xs h
  have hp : 0 < xs.length := List.length_pos_iff.2 hn
  have h2 := nearZ_bd (sumZ xs) xs.length 1000000 (by omega) (by omega) (by omega)
  refine ⟨?_, h2.2⟩
  unfold meanZ nearZ
  rw [if_pos (by omega)]
  exact Int.ediv_nonneg (by omega) (by omega)

/-- The means of all parts of 'wide' numbers. -/
def movL (xs : List Int) (wide : Nat) : Nat → List Int
  | 0 => []
  | k + 1 => movL xs wide k ++ [meanZ ((xs.drop k).take wide)]
theorem movL_len (xs : List Int) (wide k : Nat) : (movL xs wide k).length = k := by
  induction k with
  | zero => rfl
  | succ k ih => simp [movL, ih]
theorem movL_bd {xs : List Int} {W : Nat} (h : ∀ x ∈ xs, 0 ≤ x ∧ x ≤ 1000000) (hW : 1 ≤ W) : ∀ k, k + W ≤ xs.length + 1 → ∀ x ∈ movL xs W k, 0 ≤ x ∧ x ≤ 1000000
  | 0, _ => by simp [movL]
  | k + 1, hk => by
    intro x hx
    rw [movL, List.mem_append] at hx
    rcases hx with hx | hx
    · exact movL_bd h hW k (by omega) x hx
    · simp at hx
      subst hx
      refine meanZ_bd (fun y hy => h y (List.mem_of_mem_drop (List.mem_of_mem_take hy))) (fun he => ?_)
      have : ((xs.drop k).take W).length = 0 := by rw [he]; rfl
      simp at this
      omega
def movV (xs : List Int) (wide : Int) : List Int := if keptC xs (withinB wide 1 xs.length) = 0 then movL xs wide.toNat (xs.length + 1 - wide.toNat) else []
def movC (xs : List Int) (wide : Int) : Int := keptC xs (withinB wide 1 xs.length)

end Go.Proofs.Ytmpfkmbfbeejhaa

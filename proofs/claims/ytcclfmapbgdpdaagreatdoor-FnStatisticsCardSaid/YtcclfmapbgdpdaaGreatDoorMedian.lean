/- Medians: plain law, l26Sorted, medians of the program and of the reference. -/
import Derived.Test.YtcclfmapbgdpdaaGreatDoorFill
import Derived.Test.YtcclfmapbgdpdaaGreatDoorAppI
import Derived.Test.YtcclfmapbgdpdaaGreatDoorSortI
import Derived.Deep.Cut
namespace Go.Proofs.YtcclfmapbgdpdaaGreatDoor
open Go.RowKit
set_option linter.unusedVariables false

def sortZ (xs : List Int) : List Int := xs.mergeSort (fun x y => decide (x ≤ y))
theorem sortZ_perm (xs : List Int) : (sortZ xs).Perm xs := List.mergeSort_perm _ _
theorem sortZ_rise (xs : List Int) : (sortZ xs).Pairwise (· ≤ ·) := by
  have := List.pairwise_mergeSort (le := fun x y : Int => decide (x ≤ y)) (fun a b c h1 h2 => by simp only [decide_eq_true_eq] at *; omega) (fun a b => by simp only [Bool.or_eq_true, decide_eq_true_eq]; omega) xs
  exact this.imp (by simp)
theorem sortZ_len (xs : List Int) : (sortZ xs).length = xs.length := (sortZ_perm xs).length_eq
theorem sortZ_mem {xs : List Int} {x : Int} : x ∈ sortZ xs ↔ x ∈ xs := (sortZ_perm xs).mem_iff
theorem sortZ_of {xs ys : List Int} (hp : ys.Perm xs) (hr : ys.Pairwise (· ≤ ·)) : ys = sortZ xs :=
  List.Perm.eq_of_pairwise (fun a b _ _ h1 h2 => Int.le_antisymm h1 h2) hr (sortZ_rise xs) (hp.trans (sortZ_perm xs).symm)

/-- ys holds the first k in order. -/
def SInv (xs : List Int) (k : Nat) (ys : List Int) : Prop := ys.Perm (xs.take k) ∧ ys.Pairwise (· ≤ ·)
theorem SInv.len {xs ys : List Int} {k : Nat} (h : SInv xs k ys) (hk : k ≤ xs.length) : ys.length = k := by rw [h.1.length_eq]; simp; omega
theorem SInv.mem {xs ys : List Int} {k : Nat} (h : SInv xs k ys) {y : Int} (hy : y ∈ ys) : y ∈ xs := List.mem_of_mem_take (h.1.mem_iff.1 hy)
theorem SInv.put {xs ys : List Int} {k t : Nat} {x : Int} (h : SInv xs k ys) (hx : xs[k]? = some x) (h1 : ∀ y ∈ ys.take t, y ≤ x) (h2 : ∀ y ∈ ys.drop t, x ≤ y) : SInv xs (k + 1) (ys.take t ++ [x] ++ ys.drop t) := by
  refine ⟨?_, ?_⟩
  · rw [take_snoc hx]
    have e : (ys.take t ++ [x] ++ ys.drop t).Perm (ys.take t ++ ys.drop t ++ [x]) := by
      rw [List.append_assoc, List.append_assoc]
      exact List.Perm.append_left _ (List.perm_append_comm)
    rw [List.take_append_drop] at e
    exact e.trans (h.1.append_right _)
  · have hr := h.2
    rw [← List.take_append_drop t ys, List.pairwise_append] at hr
    rw [List.append_assoc, List.pairwise_append]
    refine ⟨hr.1, ?_, ?_⟩
    · rw [List.singleton_append, List.pairwise_cons]
      exact ⟨h2, hr.2.1⟩
    · intro a ha b hb
      rcases List.mem_append.1 hb with hb | hb
      · simp only [List.mem_singleton] at hb; subst hb; exact h1 a ha
      · exact hr.2.2 a ha b hb
theorem take_le {ys : List Int} (hr : ys.Pairwise (· ≤ ·)) {a : Nat} {x y : Int} (hy : ys[a]? = some y) (hle : y ≤ x) : ∀ z ∈ ys.take (a + 1), z ≤ x := by
  intro z hz
  obtain ⟨j, hj, rfl⟩ := List.getElem_of_mem hz
  obtain ⟨ha, rfl⟩ := List.getElem?_eq_some_iff.1 hy
  simp only [List.length_take] at hj
  rw [List.getElem_take]
  rcases Nat.eq_or_lt_of_le (show j ≤ a by omega) with h0 | h0
  · subst h0; exact hle
  · have := List.pairwise_iff_getElem.1 hr j a (by omega) ha h0
    omega
theorem drop_step {ys : List Int} {a : Nat} {x y : Int} (hy : ys[a]? = some y) (hlt : x ≤ y) (h : ∀ z ∈ ys.drop (a + 1), x ≤ z) : ∀ z ∈ ys.drop a, x ≤ z := by
  intro z hz
  obtain ⟨ha, rfl⟩ := List.getElem?_eq_some_iff.1 hy
  rw [List.drop_eq_getElem_cons ha, List.mem_cons] at hz
  rcases hz with rfl | hz
  · exact hlt
  · exact h z hz
theorem own_mono2 {w : World} {base base' : Nat} {e : TypeId} {size : Nat} {v : Value} {n : Nat} {xs : List Value} (h : w.ownsRow base e size v n xs) (h1 : base' ≤ base) : w.ownsRow base' e size v n xs := by
  refine ⟨h.1, ?_⟩
  rcases h.2 with h2 | ⟨g, cap, cur, hv, hbg, hrest⟩
  · exact .inl h2
  · exact .inr ⟨g, cap, cur, hv, Nat.le_trans h1 hbg, hrest⟩
theorem RdI.take {w : World} {b off n m : Nat} {xs : List Int} (h : RdI w (some ⟨b, off, none⟩) n xs) (hm : m ≤ n) : RdI w (some ⟨b, off, none⟩) m (xs.take m) := by
  have := h.cut (k := 0) (m := m) (by omega)
  simpa using this
theorem RdI.drop {w : World} {b off n k : Nat} {xs : List Int} (h : RdI w (some ⟨b, off, none⟩) n xs) (hk : k ≤ n) : RdI w (some ⟨b, off + k, none⟩) (n - k) (xs.drop k) := by
  have := h.cut (k := k) (m := n - k) (by omega)
  rwa [List.take_of_length_le (by rw [List.length_drop, h.len]; omega)] at this


/-- The median. -/
def medZ (xs : List Int) : Int := if xs.length % 2 = 1 then (sortZ xs).getD (xs.length / 2) 0 else nearZ ((sortZ xs).getD (xs.length / 2 - 1) 0 + (sortZ xs).getD (xs.length / 2) 0) 2
theorem sort_bd {xs : List Int} (h : ∀ x ∈ xs, 0 ≤ x ∧ x ≤ 1000000) (k : Nat) : 0 ≤ (sortZ xs).getD k 0 ∧ (sortZ xs).getD k 0 ≤ 1000000 := by
  rw [List.getD]
  cases hx : (sortZ xs)[k]? with
  | none => simp
  | some y => exact h y (sortZ_mem.1 (List.mem_of_getElem? hx))
theorem medZ_bd {xs : List Int} (h : ∀ x ∈ xs, 0 ≤ x ∧ x ≤ 1000000) : 0 ≤ medZ xs ∧ medZ xs ≤ 1000000 := by
  unfold medZ
  have h1 := sort_bd h (xs.length / 2)
  have h2 := sort_bd h (xs.length / 2 - 1)
  split
  · exact h1
  · have := nearZ_bd ((sortZ xs).getD (xs.length / 2 - 1) 0 + (sortZ xs).getD (xs.length / 2) 0) 2 1000000 (by omega) (by omega) (by omega)
    refine ⟨?_, this.2⟩
    unfold nearZ
    rw [if_pos (by omega)]
    exact Int.ediv_nonneg (by omega) (by omega)


set_option maxHeartbeats 2000000 in
theorem median_calls (A : Option Addr) (n c : Nat) (xs : List Int) (w : World) (h : RdI w A n xs) (hn : n ≤ 60) (h1 : 1 ≤ n) (hx : ∀ x ∈ xs, 0 ≤ x ∧ x ≤ 1000000) :
    Calls Tryz.prog 73 #[.slice A n c] w fun e w' => e = .returned (.int .i64 (medZ xs)) ∧ Below w.heap.size w w' := by
  have HL := hide h.len
  have HX := hide hx
  clear hx
  go_enter Tryz.func73, Tryz.ntmps73
  go_wp2_with fail
  refine (cloneI_calls _ _ _ xs _ h (by omega)).mono ?_
  rintro e w0 ⟨A', c', rfl, hown0, hb0⟩
  go_wp2_with fail
  refine (sortI_calls _ _ _ _ xs _ hown0 h1 (by omega) hb0.size).mono ?_
  rintro e w1 ⟨rfl, hown, hb1⟩
  have hb := hb0.trans hb1
  have hs : RdI w1 A' n (sortZ xs) := RdI.of_own hown (fun y hy => by have := HX.out y (sortZ_mem.1 hy); unfold I64; omega)
  clear hown hown0
  have HSL : Hid ((sortZ xs).length = n) := hs.len
  obtain ⟨b, off, y, rfl, hbl, hy, hc, hy1, hy2⟩ := hs.at (k := n / 2) (by omega)
  by_cases hodd : n % 2 = 1
  · have eo : (((n : Int) % 2) == 1) = true := by simp; omega
    have HM : Hid (medZ xs = y) := by unfold Hid medZ; rw [HL.out, if_pos hodd, getD_at hy.out]
    clear hodd
    go_wp2
    go_ret
    exact ⟨ret_int HM.out.symm, hb⟩
  · obtain ⟨m, hm⟩ : ∃ m, n / 2 = m + 1 := ⟨n / 2 - 1, by omega⟩
    obtain ⟨b0, off0, z, hbo, hbl', hz, hcz, hz1, hz2⟩ := hs.at (k := m) (by omega)
    obtain ⟨rfl, rfl⟩ : b = b0 ∧ off = off0 := by simpa using hbo
    clear hbo
    have eo : (((n : Int) % 2) == 1) = false := by simp; omega
    have HM : Hid (medZ xs = nearZ (z + y) 2) := by unfold Hid medZ; rw [HL.out, if_neg hodd, getD_at hy.out, show n / 2 - 1 = m by omega, getD_at hz.out]
    rw [hm] at hc
    have e5 : (n : Int) / 2 = (m : Int) + 1 := by omega
    have e6 : IntKind.i64.wrap ((m : Int) + 1) = (m : Int) + 1 := IntWalk.i64_in _ (by omega)
    have e7 : IntKind.i64.wrap ((m : Int) + 1 - 1) = (m : Int) := by rw [show (m : Int) + 1 - 1 = m by omega]; exact IntWalk.i64_in _ (by omega)
    have i1 : (0 : Int) ≤ (m : Int) := by omega
    have i2 : (m : Int) < (n : Int) := by omega
    have i3 : (m : Int) + 1 < (n : Int) := by omega
    have i4 : (0 : Int) ≤ (m : Int) + 1 := by omega
    clear hm
    have by1 := HX.out y (sortZ_mem.1 (List.mem_of_getElem? hy.out))
    have bz1 := HX.out z (sortZ_mem.1 (List.mem_of_getElem? hz.out))
    have e8 : IntKind.i64.wrap (z + y) = z + y := IntWalk.i64_in _ (by omega)
    clear hodd
    go_wp2
    go_quiet ((go_at_call 152; first | exact quiet_dr (nearest_calls _ 2 _ (by omega) (by omega) (by omega) (by omega)) | exact quiet_dr2 (nearest_calls _ 2 _ (by omega) (by omega) (by omega) (by omega)) | exact nearest_calls _ 2 _ (by omega) (by omega) (by omega) (by omega)))
    go_wp2
    go_ret
    exact ⟨ret_int HM.out.symm, (by first | exact below_drewN hb _ | exact below_drewN (below_drewN hb _) _)⟩

end Go.Proofs.YtcclfmapbgdpdaaGreatDoor

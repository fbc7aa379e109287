/- Contracts: sums, the nearest quotient, means (MeanOf), growth (GrowthTo), of the program and of the reference. -/
import Derived.Test.YtcclfmapbgdpdaaGreatDoorSer
import Derived.Test.YtcclfmapbgdpdaaGreatDoorMg
namespace Go.Proofs.YtcclfmapbgdpdaaGreatDoor
open Go.RowKit
set_option linter.unusedVariables false

/-- Elements so small that sums of them fit. -/
def Small (xs : List Int) : Prop := ∀ x ∈ xs, -1099511627776 ≤ x ∧ x ≤ 1099511627776
theorem Small.take {xs : List Int} (h : Small xs) (k : Nat) : -(1099511627776 * (k : Int)) ≤ sumZ (xs.take k) ∧ sumZ (xs.take k) ≤ 1099511627776 * (k : Int) := by
  have h1 := sumZ_bd (-1099511627776) 1099511627776 (xs.take k) (fun x hx => h x (List.mem_of_mem_take hx))
  have h2 : (xs.take k).length ≤ k := List.length_take_le _ _
  omega
theorem Small.of_ok {xs : List Int} (h : okSer xs = true) : Small xs := by
  intro x hx
  simp only [okSer, Bool.and_eq_true, List.all_eq_true] at h
  have := withinB_iff.1 (h.2 x hx)
  omega

set_option maxHeartbeats 400000 in
theorem l20Sum_calls (A : Option Addr) (n c : Nat) (xs : List Int) (w : World) (h : RdI w A n xs) (hn : n ≤ 1048576) (hs : Small xs) :
    Calls Tryz.prog 164 #[.slice A n c] w fun e w' => e = .returned (.int .i64 (sumZ xs)) ∧ w = w' := by
  have HL := hide h.len
  have HS := hide hs
  clear hs
  go_enter Tryz.func164, Tryz.ntmps164
  go_wp2
  go_loop [3, 4] (fun s i => ∃ (k : Nat), k ≤ n ∧ i = .int .i64 k ∧ s = .int .i64 (sumZ (xs.take k))) (fun _ i => n - (intOf i).toNat)
  case atStart => exact ⟨0, Nat.zero_le _, rfl, rfl⟩
  case round =>
    obtain ⟨k, hk, rfl, rfl⟩ := hrel
    by_cases hlt : k < n
    · obtain ⟨b, off, x, rfl, hbl, hx, hc, hx1, hx2⟩ := h.at hlt
      obtain ⟨s1, s2⟩ := HS.out.take k
      obtain ⟨s3, s4⟩ := HS.out.take (k + 1)
      rw [sumZ_snoc hx.out] at s3 s4
      have HE := hide (sumZ_snoc hx.out)
      go_wp2
      go_round
      case rel => exact ⟨k + 1, by omega, by go_num, by rw [HE.out]⟩
      case measure => simp [intOf]; omega
    · have hkn : k = n := by omega
      subst hkn
      go_wp2
      go_ret
      exact ⟨ret_int (by rw [List.take_of_length_le (by rw [HL.out]; omega)]), rfl⟩
set_option maxHeartbeats 400000 in
theorem total_calls (A : Option Addr) (n c : Nat) (xs : List Int) (w : World) (h : RdI w A n xs) (hn : n ≤ 1048576) (hs : Small xs) :
    Calls Tryz.prog 153 #[.slice A n c] w fun e w' => e = .returned (.int .i64 (sumZ xs)) ∧ w = w' := by
  have HL := hide h.len
  have HS := hide hs
  clear hs
  go_enter Tryz.func153, Tryz.ntmps153
  go_wp2
  go_loop [3, 8] (fun s i => ∃ (k : Nat), k ≤ n ∧ i = .int .i64 k ∧ s = .int .i64 (sumZ (xs.take k))) (fun _ i => n - (intOf i).toNat)
  case atStart => exact ⟨0, Nat.zero_le _, rfl, rfl⟩
  case round =>
    obtain ⟨k, hk, rfl, rfl⟩ := hrel
    by_cases hlt : k < n
    · obtain ⟨b, off, x, rfl, hbl, hx, hc, hx1, hx2⟩ := h.at hlt
      obtain ⟨s1, s2⟩ := HS.out.take k
      obtain ⟨s3, s4⟩ := HS.out.take (k + 1)
      rw [sumZ_snoc hx.out] at s3 s4
      have HE := hide (sumZ_snoc hx.out)
      go_wp2
      go_round
      case rel => exact ⟨k + 1, by omega, by go_num, by rw [HE.out]⟩
      case measure => simp [intOf]; omega
    · have hkn : k = n := by omega
      subst hkn
      go_wp2
      go_ret
      exact ⟨ret_int (by rw [List.take_of_length_le (by rw [HL.out]; omega)]), rfl⟩

set_option maxHeartbeats 400000 in
theorem l01Div_calls (a b : Int) (w : World) (hb : 0 < b) (hb2 : b ≤ 1152921504606846976) (ha : -2305843009213693952 ≤ a) (ha2 : a ≤ 2305843009213693952) :
    Calls Tryz.prog 163 #[.int .i64 a, .int .i64 b] w fun e w' => e = .returned (.int .i64 (nearZ a b)) ∧ w = w' := by
  by_cases h : 0 ≤ a
  · have h1 : 0 ≤ 2 * a + b := by omega
    have h2 : 1 ≤ 2 * b := by omega
    go_enter Tryz.func163, Tryz.ntmps163
    go_wp2
    go_ret
    exact ⟨ret_int (by rw [nearZ, if_pos (by omega)]), rfl⟩
  · have h1 : 0 ≤ b - 2 * a := by omega
    have h2 : 1 ≤ 2 * b := by omega
    have h3 := Int.ediv_nonneg (a := b - 2 * a) (b := 2 * b) (by omega) (by omega)
    have h4 := Int.ediv_le_self (a := b - 2 * a) (2 * b) (by omega)
    go_enter Tryz.func163, Tryz.ntmps163
    go_wp2
    go_ret
    exact ⟨ret_int (by rw [nearZ, if_neg (by omega)]), rfl⟩
def absZ (n : Int) : Int := if n < 0 then -n else n
theorem absZ_pos {n : Int} (h : 0 ≤ n) : absZ n = n := by unfold absZ; rw [if_neg (by omega)]
theorem absZ_neg {n : Int} (h : n ≤ 0) : absZ n = -n := by unfold absZ; split <;> omega

set_option maxHeartbeats 400000 in
theorem abs_calls (n : Int) (w : World) (h1 : -9223372036854775807 ≤ n) (h2 : n ≤ 9223372036854775807) :
    Calls Tryz.prog 200 #[.int .i64 n] w fun e w' => e = .returned (.int .i64 (absZ n)) ∧ w = w' := by
  by_cases h : n < 0
  · go_enter Tryz.func200, Tryz.ntmps200
    go_wp2
    go_ret
    exact ⟨ret_int (absZ_neg (by omega)).symm, rfl⟩
  · go_enter Tryz.func200, Tryz.ntmps200
    go_wp2
    go_ret
    exact ⟨ret_int (absZ_pos (by omega)).symm, rfl⟩

set_option maxHeartbeats 400000 in
theorem nearest_calls (a b : Int) (w : World) (hb : 0 < b) (hb2 : b ≤ 1152921504606846976) (ha : -2305843009213693952 ≤ a) (ha2 : a ≤ 2305843009213693952) :
    Calls Tryz.prog 152 #[.int .i64 a, .int .i64 b] w fun e w' => e = .returned (.int .i64 (nearZ a b)) ∧ ∃ m, w' = w.drewN m := by
  by_cases h : 0 ≤ a
  · have r1 := Int.emod_nonneg a (by omega : b ≠ 0)
    have r2 := Int.emod_lt_of_pos a hb
    have q1 := Int.ediv_nonneg (a := a) (b := b) (by omega) (by omega)
    have q2 := Int.ediv_le_self (a := a) b (by omega)
    have hab := absZ_pos (n := a % b) r1
    have hab2 := absZ_pos (n := b) (by omega)
    have e1 : (b == 0) = false := by simp; omega
    have e2 : decide (a < 0) = false := by simp; omega
    have e3 : decide (b < 0) = false := by simp; omega
    have HN := hide (near_pos a b h hb)
    by_cases hr : b - a % b ≤ a % b
    · go_enter Tryz.func152, Tryz.ntmps152
      go_wp2
      go_quiet ((go_at_call 200; exact Calls.quiet_of_same ((abs_calls _ _ (by omega) (by omega)).mono fun _ _ hh => ⟨hh.1, hh.2.symm⟩)))
      go_wp2_with (go_at_call 200; refine (abs_calls _ _ (by omega) (by omega)).mono ?_; rintro e w' ⟨rfl, rfl⟩)
      go_ret
      exact ⟨ret_int (by rw [HN.out, if_pos (by omega)]), _, rfl⟩
    · go_enter Tryz.func152, Tryz.ntmps152
      go_wp2
      go_quiet ((go_at_call 200; exact Calls.quiet_of_same ((abs_calls _ _ (by omega) (by omega)).mono fun _ _ hh => ⟨hh.1, hh.2.symm⟩)))
      go_wp2_with (go_at_call 200; refine (abs_calls _ _ (by omega) (by omega)).mono ?_; rintro e w' ⟨rfl, rfl⟩)
      go_ret
      exact ⟨ret_int (by rw [HN.out, if_neg (by omega)]), _, rfl⟩
  · have hneg : a < 0 := by omega
    obtain ⟨r1, r2⟩ := tmod_bd a b hneg hb
    obtain ⟨q1, q2⟩ := tdiv_bd a b hneg hb
    have hab := absZ_neg (n := a.tmod b) r2
    have hab2 := absZ_pos (n := b) (by omega)
    have e1 : (b == 0) = false := by simp; omega
    have e2 : decide (a < 0) = true := by simp; omega
    have e3 : decide (b < 0) = false := by simp; omega
    have HN := hide (near_neg a b hneg hb)
    by_cases hr : b - -(a.tmod b) ≤ -(a.tmod b)
    · go_enter Tryz.func152, Tryz.ntmps152
      go_wp2
      go_quiet ((go_at_call 200; exact Calls.quiet_of_same ((abs_calls _ _ (by omega) (by omega)).mono fun _ _ hh => ⟨hh.1, hh.2.symm⟩)))
      go_wp2_with (go_at_call 200; refine (abs_calls _ _ (by omega) (by omega)).mono ?_; rintro e w' ⟨rfl, rfl⟩)
      go_ret
      exact ⟨ret_int (by rw [HN.out, if_pos (by omega)]), _, rfl⟩
    · go_enter Tryz.func152, Tryz.ntmps152
      go_wp2
      go_quiet ((go_at_call 200; exact Calls.quiet_of_same ((abs_calls _ _ (by omega) (by omega)).mono fun _ _ hh => ⟨hh.1, hh.2.symm⟩)))
      go_wp2_with (go_at_call 200; refine (abs_calls _ _ (by omega) (by omega)).mono ?_; rintro e w' ⟨rfl, rfl⟩)
      go_ret
      exact ⟨ret_int (by rw [HN.out, if_neg (by omega)]), _, rfl⟩

theorem sizeI_calls (A : Option Addr) (n c : Nat) (w : World) (hn : n ≤ 1048576) :
    Calls Tryz.prog 76 #[.slice A n c] w fun e w' => e = .returned (.int .i64 n) ∧ w = w' := by
  go_enter Tryz.func76, Tryz.ntmps76
  go_wp2
  go_ret
  exact ⟨rfl, rfl⟩

/-- The mean of numbers. -/
def meanZ (xs : List Int) : Int := nearZ (sumZ xs) xs.length

theorem specMean_calls (A : Option Addr) (n c : Nat) (xs : List Int) (w : World) (h : RdI w A n xs) (hn : n ≤ 1048576) (hs : Small xs) (h1 : 1 ≤ n) :
    Calls Tryz.prog 82 #[.slice A n c] w fun e w' => e = .returned (.int .i64 (meanZ xs)) ∧ w = w' := by
  have HL := hide h.len
  have hb := hs.take n
  rw [List.take_of_length_le (by rw [HL.out]; omega)] at hb
  obtain ⟨hb1, hb2⟩ := hb
  go_enter Tryz.func82, Tryz.ntmps82
  go_wp2_with fail
  refine (l20Sum_calls _ _ _ _ _ h hn hs).mono ?_
  rintro e w' ⟨rfl, rfl⟩
  go_wp2_with fail
  refine (l01Div_calls _ _ _ (by omega) (by omega) (by omega) (by omega)).mono ?_
  rintro e w' ⟨rfl, rfl⟩
  go_wp2
  go_ret
  exact ⟨ret_int (by rw [meanZ, HL.out]), rfl⟩
theorem implMean_calls (A : Option Addr) (n c : Nat) (xs : List Int) (w : World) (h : RdI w A n xs) (hn : n ≤ 1048576) (hs : Small xs) (h1 : 1 ≤ n) :
    Calls Tryz.prog 72 #[.slice A n c] w fun e w' => e = .returned (.int .i64 (meanZ xs)) ∧ ∃ m, w' = w.drewN m := by
  have HL := hide h.len
  have hb := hs.take n
  rw [List.take_of_length_le (by rw [HL.out]; omega)] at hb
  obtain ⟨hb1, hb2⟩ := hb
  go_enter Tryz.func72, Tryz.ntmps72
  go_wp2_with fail
  refine (total_calls _ _ _ _ _ h hn hs).mono ?_
  rintro e w' ⟨rfl, rfl⟩
  go_wp2_with fail
  refine (sizeI_calls _ _ _ _ hn).mono ?_
  rintro e w' ⟨rfl, rfl⟩
  go_wp2_with fail
  refine (nearest_calls _ _ _ (by omega) (by omega) (by omega) (by omega)).mono ?_
  rintro e w' ⟨rfl, m, rfl⟩
  go_wp2
  go_ret
  exact ⟨ret_int (by rw [meanZ, HL.out]), _, rfl⟩

/-- What MeanOf returns: the mean, and the code. -/
def meanV (xs : List Int) : Int := if okSer xs then meanZ xs else 0
def okCode (xs : List Int) : Int := if okSer xs then 0 else 1
theorem specMeanOf_calls (A : Option Addr) (n c : Nat) (xs : List Int) (w : World) (h : RdI w A n xs) (hn : n ≤ 1048576) :
    Calls Tryz.prog 15 #[.slice A n c] w fun e w' => e = .returned (.tuple #[.int .i64 (meanV xs), .int .i64 (okCode xs)]) ∧ w = w' := by
  have HL := hide h.len
  cases hok : okSer xs
  · go_enter Tryz.func15, Tryz.ntmps15
    go_wp2_with (go_at_call 81; refine (l26Ok_calls _ _ _ _ _ h hn).mono ?_; rintro e w' ⟨rfl, rfl⟩)
    go_ret2
    exact ⟨by simp [meanV, okCode, hok], rfl⟩
  · have h1 := (ok_len hok).1
    rw [HL.out] at h1
    have HS := hide (Small.of_ok hok)
    go_enter Tryz.func15, Tryz.ntmps15
    go_wp2_with (first | (go_at_call 81; refine (l26Ok_calls _ _ _ _ _ h hn).mono ?_; rintro e w' ⟨rfl, rfl⟩) | (go_at_call 82; refine (specMean_calls _ _ _ _ _ h hn HS.out h1).mono ?_; rintro e w' ⟨rfl, rfl⟩))
    go_ret2
    exact ⟨by simp [meanV, okCode, hok], rfl⟩

theorem implMeanOf_calls (A : Option Addr) (n c : Nat) (xs : List Int) (w : World) (h : RdI w A n xs) (hn : n ≤ 1048576) :
    Calls Tryz.prog 9 #[.slice A n c] w fun e w' => e = .returned (.tuple #[.int .i64 (meanV xs), .int .i64 (okCode xs)]) ∧ ∃ m, w' = w.drewN m := by
  have HL := hide h.len
  cases hok : okSer xs
  · go_enter Tryz.func9, Tryz.ntmps9
    go_wp2_with (go_at_call 71; refine (implValidSeries_calls _ _ _ _ _ h hn).mono ?_; rintro e w' ⟨rfl, rfl⟩)
    go_ret2
    exact ⟨by simp [meanV, okCode, hok], 0, rfl⟩
  · have h1 := (ok_len hok).1
    rw [HL.out] at h1
    have HS := hide (Small.of_ok hok)
    go_enter Tryz.func9, Tryz.ntmps9
    go_wp2_with (first | (go_at_call 71; refine (implValidSeries_calls _ _ _ _ _ h hn).mono ?_; rintro e w' ⟨rfl, rfl⟩) | (go_at_call 72; refine (implMean_calls _ _ _ _ _ h hn HS.out h1).mono ?_; rintro e w' ⟨rfl, m, rfl⟩))
    go_ret2
    exact ⟨by simp [meanV, okCode, hok], _, rfl⟩

/-- What GrowthTo returns. -/
def growV (xs ys : List Int) : Int := if okSer xs && okSer ys then (if sumZ xs = 0 then 0 else nearZ (1000 * (sumZ ys - sumZ xs)) (sumZ xs)) else 0
def growC (xs ys : List Int) : Int := if okSer xs && okSer ys then (if sumZ xs = 0 then 6 else 0) else 1
theorem okSer_sum {xs : List Int} (h : okSer xs = true) : 0 ≤ sumZ xs ∧ sumZ xs ≤ 60000000 := by
  have hl := (ok_len h).2
  simp only [okSer, Bool.and_eq_true, List.all_eq_true] at h
  have := sumZ_bd 0 1000000 xs (fun x hx => withinB_iff.1 (h.2 x hx))
  omega



end Go.Proofs.YtcclfmapbgdpdaaGreatDoor

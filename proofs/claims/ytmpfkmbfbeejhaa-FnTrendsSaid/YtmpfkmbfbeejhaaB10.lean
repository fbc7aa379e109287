/- The laws' own small functions: sums, members, rising rows, quotients. -/
import Derived.Test.YtmpfkmbfbeejhaaSrc
import Derived.Test.YtmpfkmbfbeejhaaMean
import Derived.Test.YtmpfkmbfbeejhaaHasI
namespace Go.Proofs.Ytmpfkmbfbeejhaa
open Go.RowKit
set_option linter.unusedVariables false

theorem b10Long_calls (A : Option Addr) (n c : Nat) (w : World) :
    Calls Try.prog 12 #[.slice A n c] w fun e w' => e = .returned (.bool (decide ((1048576 : Int) < n))) ∧ w = w' := by
  go_enter Try.func12, Try.ntmps12
  go_wp2
  go_ret
  exact ⟨by first | rfl | (simp; done), rfl⟩

set_option maxHeartbeats 400000 in
theorem b10Has_calls (A : Option Addr) (n c : Nat) (xs : List Int) (x : Int) (w : World) (h : RdI w A n xs) (hn : n ≤ 1048576) :
    Calls Try.prog 15 #[.slice A n c, .int .i64 x] w fun e w' => e = .returned (.bool (decide (x ∈ xs))) ∧ w = w' := by
  have HL := hide h.len
  go_enter Try.func15, Try.ntmps15
  go_wp2
  go_loop [5] (fun i => ∃ (k : Nat), k ≤ n ∧ i = .int .i64 k ∧ Hid (x ∉ xs.take k)) (fun i => n - (intOf i).toNat)
  case atStart => exact ⟨0, Nat.zero_le _, rfl, by simp [Hid]⟩
  case round =>
    obtain ⟨k, hk, rfl, HC⟩ := hrel
    by_cases hlt : k < n
    · obtain ⟨b, off, y, rfl, hbl, hx, hc, hx1, hx2⟩ := h.at hlt
      by_cases c1 : y = x
      · subst c1
        go_wp2
        go_ret
        exact ⟨ret_bool (decide_eq_true (mem_at hx.out)).symm, rfl⟩
      · have e1 : (y == x) = false := by simpa using c1
        have HN := hide (notmem_snoc hx.out HC.out c1)
        clear c1
        go_wp2
        go_round
        case rel => exact ⟨k + 1, by omega, by go_num, HN⟩
        case measure => simp [intOf]; omega
    · have hkn : k = n := by omega
      subst hkn
      go_wp2
      go_ret
      exact ⟨ret_bool (decide_eq_false (notmem_end HL.out HC.out)).symm, rfl⟩

set_option maxHeartbeats 400000 in
theorem b10Sum_calls (A : Option Addr) (n c : Nat) (xs : List Int) (w : World) (h : RdI w A n xs) (hn : n ≤ 1048576) (hs : Small xs) :
    Calls Try.prog 20 #[.slice A n c] w fun e w' => e = .returned (.int .i64 (sumZ xs)) ∧ w = w' := by
  have HL := hide h.len
  have HS := hide hs
  clear hs
  go_enter Try.func20, Try.ntmps20
  go_wp2
  go_loop [3, 4] (fun s i => ∃ (k : Nat), k ≤ n ∧ i = .int .i64 k ∧ s = .int .i64 (sumZ (xs.take k))) (fun _ i => n - (intOf i).toNat)
  case atStart => exact ⟨0, Nat.zero_le _, rfl, rfl⟩
  case round =>
    obtain ⟨k, hk, rfl, rfl⟩ := hrel
    by_cases hlt : k < n
    · obtain ⟨b, off, x, rfl, hbl, hx, hc, hx1, hx2⟩ := h.at hlt
      obtain ⟨s1, s2⟩ := HS.out.take k
      obtain ⟨s3, s4⟩ := HS.out.take (k + 1)
      rw [sumZ_snoc hx.out] at s3 s4
      have HE := hide (sumZ_snoc hx.out)
      go_wp2
      go_round
      case rel => exact ⟨k + 1, by omega, by go_num, by rw [HE.out]⟩
      case measure => simp [intOf]; omega
    · have hkn : k = n := by omega
      subst hkn
      go_wp2
      go_ret
      exact ⟨ret_int (by rw [List.take_of_length_le (by rw [HL.out]; omega)]), rfl⟩

set_option maxHeartbeats 1000000 in
/-- Rising indices of N things. -/
theorem b10Rises_calls (A : Option Addr) (n c N : Nat) (xs : List Int) (w : World) (h : RdI w A n xs) (hn : n ≤ 1048576) (hb : ∀ x ∈ xs, 0 ≤ x ∧ x < N) (hr : xs.Pairwise (· < ·)) :
    Calls Try.prog 14 #[.slice A n c, .int .i64 N] w fun e w' => e = .returned (.bool true) ∧ ∃ j, w' = w.drewN j := by
  have HL := hide h.len
  have HB := hide hb
  have HR := hide hr
  clear hb hr
  go_enter Try.func14, Try.ntmps14
  go_wp2
  go_loopw [5] (fun i wr => ∃ (k : Nat), k ≤ n ∧ i = .int .i64 k ∧ ∃ j, wr = w.drewN j) (fun i _ => n - (intOf i).toNat)
  case atStart => exact ⟨0, Nat.zero_le _, rfl, 0, rfl⟩
  case round =>
    obtain ⟨k, hk, rfl, hj⟩ := hrel
    obtain ⟨wi, hwi⟩ : ∃ wi, wi = wr := ⟨_, rfl⟩
    rw [← hwi] at hj ⊢
    have HJ := hide hj
    have hri : RdI wi A n xs := by obtain ⟨j, e⟩ := HJ.out; rw [e]; exact h.drewN j
    have HNJ : Hid (∀ m, ∃ j, wi.drewN m = w.drewN j) := by obtain ⟨j, e⟩ := HJ.out; intro m; exact ⟨_, by rw [e, World.drewN_drewN]⟩
    clear hwi hj
    by_cases hlt : k < n
    · obtain ⟨b, off, y, hA, hbl, hy, hc, hy1, hy2⟩ := hri.at hlt
      have by1 := HB.out y (List.mem_of_getElem? hy.out)
      have d1 : decide (y < 0) = false := decide_eq_false (by omega)
      have d2 : decide ((N : Int) ≤ y) = false := decide_eq_false (by omega)
      have i1 : (0 : Int) ≤ (k : Int) := by omega
      have i2 : (k : Int) < (n : Int) := by omega
      rcases Nat.eq_zero_or_pos k with h0 | h0
      · subst h0
        subst hA
        rw [Nat.add_zero] at hc
        clear hri HJ
        go_wp2
        go_quiet (fail)
        go_wp2
        go_roundw
        case rel => exact ⟨1, by omega, by go_num, HNJ.out _⟩
        case measure => simp [intOf]; omega
      · obtain ⟨p, hp⟩ : ∃ p, p + 1 = k := ⟨k - 1, by omega⟩
        obtain ⟨b2, off2, x, hA2, hbl2, hx, hc2, hx1, hx2⟩ := hri.at (show p < n by omega)
        have hxy : x < y := by
          obtain ⟨q1, q2⟩ := List.getElem?_eq_some_iff.1 hx.out
          obtain ⟨q3, q4⟩ := List.getElem?_eq_some_iff.1 hy.out
          have := List.pairwise_iff_getElem.1 HR.out p k q1 q3 (by omega)
          rwa [q2, q4] at this
        subst hA
        obtain ⟨rfl, rfl⟩ : b = b2 ∧ off = off2 := by simpa using hA2
        have d3 : decide ((0 : Int) < (k : Int)) = true := decide_eq_true (by omega)
        have d4 : decide (y ≤ x) = false := decide_eq_false (by omega)
        have ew : IntKind.i64.wrap ((k : Int) - 1) = (p : Int) := by rw [IntKind.wrap_i64]; omega
        have i3 : (0 : Int) ≤ (p : Int) := by omega
        have i4 : (p : Int) < (n : Int) := by omega
        clear hri HJ hA2 hxy hbl hbl2 hp
        go_wp2
        go_quiet (fail)
        go_wp2
        go_roundw
        case rel => exact ⟨k + 1, by omega, by go_num, HNJ.out _⟩
        case measure => simp [intOf]; omega
    · have hkn : k = n := by omega
      subst hkn
      have HN0 := HNJ.out 0
      go_wp2
      go_ret
      exact ⟨rfl, HJ.out⟩

theorem b10Div_calls (a b : Int) (w : World) (hb : 0 < b) (hb2 : b ≤ 1152921504606846976) (ha : 0 ≤ a) (ha2 : a ≤ 2305843009213693952) :
    Calls Try.prog 25 #[.int .i64 a, .int .i64 b] w fun e w' => e = .returned (.int .i64 (nearZ a b)) ∧ w = w' := by
  have h0 : ¬ a < 0 := by omega
  have h1 : 2 * b ≠ 0 := by omega
  go_enter Try.func25, Try.ntmps25
  go_wp2
  go_ret
  exact ⟨ret_int (by rw [nearZ, if_pos ha]), rfl⟩

theorem b10Abs_calls (n : Int) (w : World) (h1 : -9223372036854775807 ≤ n) (h2 : n ≤ 9223372036854775807) :
    Calls Try.prog 26 #[.int .i64 n] w fun e w' => e = .returned (.int .i64 (absZ n)) ∧ w = w' := by
  by_cases h : n < 0
  · go_enter Try.func26, Try.ntmps26
    go_wp2
    go_ret
    exact ⟨ret_int (absZ_neg (by omega)).symm, rfl⟩
  · go_enter Try.func26, Try.ntmps26
    go_wp2
    go_ret
    exact ⟨ret_int (absZ_pos (by omega)).symm, rfl⟩

end Go.Proofs.Ytmpfkmbfbeejhaa

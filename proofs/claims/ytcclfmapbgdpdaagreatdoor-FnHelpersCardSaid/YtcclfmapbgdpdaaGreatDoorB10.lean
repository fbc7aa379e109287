/- The laws' own small functions: sums, members, rising rows, quotients. -/
import Derived.Test.YtcclfmapbgdpdaaGreatDoorMg
import Derived.Test.YtcclfmapbgdpdaaGreatDoorMean
namespace Go.Proofs.YtcclfmapbgdpdaaGreatDoor
open Go.RowKit
set_option linter.unusedVariables false

theorem b10Long_calls (A : Option Addr) (n c : Nat) (w : World) :
    Calls Tryz.prog 7 #[.slice A n c] w fun e w' => e = .returned (.bool (decide ((1048576 : Int) < n))) ∧ w = w' := by
  go_enter Tryz.func7, Tryz.ntmps7
  go_wp2
  go_ret
  exact ⟨by first | rfl | (simp; done), rfl⟩

set_option maxHeartbeats 400000 in
theorem b10Has_calls (A : Option Addr) (n c : Nat) (xs : List Int) (x : Int) (w : World) (h : RdI w A n xs) (hn : n ≤ 1048576) :
    Calls Tryz.prog 18 #[.slice A n c, .int .i64 x] w fun e w' => e = .returned (.bool (decide (x ∈ xs))) ∧ w = w' := by
  have HL := hide h.len
  go_enter Tryz.func18, Tryz.ntmps18
  go_wp2
  go_loop [5] (fun i => ∃ (k : Nat), k ≤ n ∧ i = .int .i64 k ∧ Hid (x ∉ xs.take k)) (fun i => n - (intOf i).toNat)
  case atStart => exact ⟨0, Nat.zero_le _, rfl, by simp [Hid]⟩
  case round =>
    obtain ⟨k, hk, rfl, HC⟩ := hrel
    by_cases hlt : k < n
    · obtain ⟨b, off, y, rfl, hbl, hx, hc, hx1, hx2⟩ := h.at hlt
      by_cases c1 : y = x
      · subst c1
        go_wp2
        go_ret
        exact ⟨ret_bool (decide_eq_true (mem_at hx.out)).symm, rfl⟩
      · have e1 : (y == x) = false := by simpa using c1
        have HN := hide (notmem_snoc hx.out HC.out c1)
        clear c1
        go_wp2
        go_round
        case rel => exact ⟨k + 1, by omega, by go_num, HN⟩
        case measure => simp [intOf]; omega
    · have hkn : k = n := by omega
      subst hkn
      go_wp2
      go_ret
      exact ⟨ret_bool (decide_eq_false (notmem_end HL.out HC.out)).symm, rfl⟩


set_option maxHeartbeats 1000000 in
/-- Rising indices of N things. -/
theorem b10Rises_calls (A : Option Addr) (n c N : Nat) (xs : List Int) (w : World) (h : RdI w A n xs) (hn : n ≤ 1048576) (hb : ∀ x ∈ xs, 0 ≤ x ∧ x < N) (hr : xs.Pairwise (· < ·)) :
    Calls Tryz.prog 40 #[.slice A n c, .int .i64 N] w fun e w' => e = .returned (.bool true) ∧ ∃ j, w' = w.drewN j := by
  have HL := hide h.len
  have HB := hide hb
  have HR := hide hr
  clear hb hr
  go_enter Tryz.func40, Tryz.ntmps40
  go_wp2
  go_loopw [5] (fun i wr => ∃ (k : Nat), k ≤ n ∧ i = .int .i64 k ∧ ∃ j, wr = w.drewN j) (fun i _ => n - (intOf i).toNat)
  case atStart => exact ⟨0, Nat.zero_le _, rfl, 0, rfl⟩
  case round =>
    obtain ⟨k, hk, rfl, hj⟩ := hrel
    obtain ⟨wi, hwi⟩ : ∃ wi, wi = wr := ⟨_, rfl⟩
    rw [← hwi] at hj ⊢
    have HJ := hide hj
    have hri : RdI wi A n xs := by obtain ⟨j, e⟩ := HJ.out; rw [e]; exact h.drewN j
    have HNJ : Hid (∀ m, ∃ j, wi.drewN m = w.drewN j) := by obtain ⟨j, e⟩ := HJ.out; intro m; exact ⟨_, by rw [e, World.drewN_drewN]⟩
    clear hwi hj
    by_cases hlt : k < n
    · obtain ⟨b, off, y, hA, hbl, hy, hc, hy1, hy2⟩ := hri.at hlt
      have by1 := HB.out y (List.mem_of_getElem? hy.out)
      have d1 : decide (y < 0) = false := decide_eq_false (by omega)
      have d2 : decide ((N : Int) ≤ y) = false := decide_eq_false (by omega)
      have i1 : (0 : Int) ≤ (k : Int) := by omega
      have i2 : (k : Int) < (n : Int) := by omega
      rcases Nat.eq_zero_or_pos k with h0 | h0
      · subst h0
        subst hA
        rw [Nat.add_zero] at hc
        clear hri HJ
        go_wp2
        go_quiet (fail)
        go_wp2
        go_roundw
        case rel => exact ⟨1, by omega, by go_num, HNJ.out _⟩
        case measure => simp [intOf]; omega
      · obtain ⟨p, hp⟩ : ∃ p, p + 1 = k := ⟨k - 1, by omega⟩
        obtain ⟨b2, off2, x, hA2, hbl2, hx, hc2, hx1, hx2⟩ := hri.at (show p < n by omega)
        have hxy : x < y := by
          obtain ⟨q1, q2⟩ := List.getElem?_eq_some_iff.1 hx.out
          obtain ⟨q3, q4⟩ := List.getElem?_eq_some_iff.1 hy.out
          have := List.pairwise_iff_getElem.1 HR.out p k q1 q3 (by omega)
          rwa [q2, q4] at this
        subst hA
        obtain ⟨rfl, rfl⟩ : b = b2 ∧ off = off2 := by simpa using hA2
        have d3 : decide ((0 : Int) < (k : Int)) = true := decide_eq_true (by omega)
        have d4 : decide (y ≤ x) = false := decide_eq_false (by omega)
        have ew : IntKind.i64.wrap ((k : Int) - 1) = (p : Int) := by rw [IntKind.wrap_i64]; omega
        have i3 : (0 : Int) ≤ (p : Int) := by omega
        have i4 : (p : Int) < (n : Int) := by omega
        clear hri HJ hA2 hxy hbl hbl2 hp
        go_wp2
        go_quiet (fail)
        go_wp2
        go_roundw
        case rel => exact ⟨k + 1, by omega, by go_num, HNJ.out _⟩
        case measure => simp [intOf]; omega
    · have hkn : k = n := by omega
      subst hkn
      have HN0 := HNJ.out 0
      go_wp2
      go_ret
      exact ⟨rfl, HJ.out⟩



set_option maxHeartbeats 1000000 in
/-- Two equal lists. -/
theorem b10Nums_calls (A B : Option Addr) (n c m d : Nat) (xs : List Int) (w : World) (h : RdI w A n xs) (h' : RdI w B m xs) (hn : n ≤ 1048576) :
    Calls Tryz.prog 14 #[.slice A n c, .slice B m d] w fun e w' => e = .returned (.bool true) ∧ ∃ j, w' = w.drewN j := by
  obtain rfl : n = m := h.len.symm.trans h'.len
  go_enter Tryz.func14, Tryz.ntmps14
  go_wp2
  go_loopw [5] (fun i wr => ∃ (k : Nat), k ≤ n ∧ i = .int .i64 k ∧ ∃ j, wr = w.drewN j) (fun i _ => n - (intOf i).toNat)
  case atStart => exact ⟨0, Nat.zero_le _, rfl, 0, rfl⟩
  case round =>
    obtain ⟨k, hk, rfl, hj⟩ := hrel
    obtain ⟨wi, hwi⟩ : ∃ wi, wi = wr := ⟨_, rfl⟩
    rw [← hwi] at hj ⊢
    have HJ := hide hj
    have hr1 : RdI wi A n xs := by obtain ⟨j, e⟩ := HJ.out; rw [e]; exact h.drewN j
    have hr2 : RdI wi B n xs := by obtain ⟨j, e⟩ := HJ.out; rw [e]; exact h'.drewN j
    have HNJ : Hid (∀ m, ∃ j, wi.drewN m = w.drewN j) := by obtain ⟨j, e⟩ := HJ.out; intro m; exact ⟨_, by rw [e, World.drewN_drewN]⟩
    clear hwi hj
    by_cases hlt : k < n
    · obtain ⟨b, off, y, hA, hbl, hy, hc, hy1, hy2⟩ := hr1.at hlt
      obtain ⟨b2, off2, y2, hB, hbl2, hyy, hc2, _, _⟩ := hr2.at hlt
      obtain rfl : y = y2 := Option.some.inj (hy.out.symm.trans hyy.out)
      have i1 : (0 : Int) ≤ (k : Int) := by omega
      have i2 : (k : Int) < (n : Int) := by omega
      subst hA
      subst hB
      clear hr1 hr2 HJ hy hyy
      go_wp2
      go_quiet (fail)
      go_wp2
      go_roundw
      case rel => exact ⟨k + 1, by omega, by go_num, HNJ.out _⟩
      case measure => simp [intOf]; omega
    · have hkn : k = n := by omega
      subst hkn
      go_wp2
      go_ret
      exact ⟨rfl, HJ.out⟩

end Go.Proofs.YtcclfmapbgdpdaaGreatDoor

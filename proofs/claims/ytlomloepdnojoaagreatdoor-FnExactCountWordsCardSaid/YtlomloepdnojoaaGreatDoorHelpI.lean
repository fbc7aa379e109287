/- Contracts of the helpers of the laws on lists of int64 (toInt64S, eqInt64S ..). -/
import Derived.Test.YtlomloepdnojoaaGreatDoorRows
import Derived.Test.YtlomloepdnojoaaGreatDoorBase
namespace Go.Proofs.YtlomloepdnojoaaGreatDoor
open Go.RowKit

theorem Tryz.info2 : (Tryz.prog.info? 2).map (fun i => (i.zero, i.size, i.bytes)) = some (some (.int .i64 0), 1, 8) := by kernel_rfl

set_option maxHeartbeats 400000 in
theorem eqInt64S_calls (A A' : Option Addr) (n n' c c' : Nat) (xs ys : List Int) (w : World) (h : RdI w A n xs) (h' : RdI w A' n' ys) (hn : n ≤ 1048576) (hn' : n' ≤ 1048576) :
    Calls Tryz.prog 10 #[.slice A n c, .slice A' n' c'] w fun e w' => e = .returned (.bool (decide (xs = ys))) ∧ ∃ m, w' = w.drewN m := by
  have hl := h.len
  have hl' := h'.len
  by_cases hnn : n = n'
  · subst hnn
    have HL := hide hl
    have HL' := hide hl'
    clear hl hl'
    go_enter Tryz.func10, Tryz.ntmps10
    go_wp2
    go_loopw [5] (fun i wr => ∃ (k : Nat), k ≤ n ∧ i = .int .i64 k ∧ xs.take k = ys.take k ∧ ∃ m, wr = w.drewN m) (fun i _ => n - (intOf i).toNat)
    case atStart => exact ⟨0, Nat.zero_le _, rfl, by simp, 0, rfl⟩
    case round =>
      obtain ⟨k, hk, rfl, hcur, m, rfl⟩ := hrel
      have HC := hide hcur
      clear hcur
      by_cases hlt : k < n
      · obtain ⟨b, off, x, rfl, hbl, hx, hc, hx1, hx2⟩ := h.at hlt
        obtain ⟨b', off', y, rfl, hbl', hy, hc', hy1, hy2⟩ := h'.at hlt
        by_cases hxy : x = y
        · subst hxy
          go_wp2
          go_quiet (fail)
          go_wp2
          go_roundw
          case rel =>
            refine ⟨k + 1, by omega, by go_num, ?_, (by first | exact ⟨_, rfl⟩ | exact drewN2 _ _ _)⟩
            rw [take_snoc hx.out, take_snoc hy.out, HC.out]
          case measure => simp [intOf]; omega
        · have hne : (x != y) = true := by simpa using hxy
          go_wp2
          go_quiet (fail)
          go_wp2
          go_ret
          exact ⟨ret_bool (decide_eq_false (ne_of_at hx.out hy.out hxy)).symm, drewN2 _ _ _⟩
      · have hkn : k = n := by omega
        subst hkn
        go_wp2
        go_ret
        exact ⟨ret_bool (decide_eq_true (eq_of_takes HL.out HL'.out HC.out)).symm, _, rfl⟩
  · have hne : ((n : Int) != n') = true := by simp; omega
    go_enter Tryz.func10, Tryz.ntmps10
    go_wp2
    go_ret
    exact ⟨ret_bool (decide_eq_false (ne_of_len hl hl' hnn)).symm, 0, rfl⟩
end Go.Proofs.YtlomloepdnojoaaGreatDoor

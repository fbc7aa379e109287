/- Contracts of the helpers of the laws on lists of int64 (toInt64S, eqInt64S ..). -/
import Derived.Test.YtmpfkmbfbeejhaaRows
import Derived.Test.YtmpfkmbfbeejhaaMg
namespace Go.Proofs.Ytmpfkmbfbeejhaa
open Go.RowKit

theorem Try.info2 : (Try.prog.info? 2).map (fun i => (i.zero, i.size, i.bytes)) = some (some (.int .i64 0), 1, 8) := by kernel_rfl

set_option maxHeartbeats 400000 in
theorem toInt64S_calls (A : Option Addr) (n c : Nat) (xs : List Int) (w : World) (h : RdI w A n xs) (hn : n ≤ 1048576) :
    Calls Try.prog 7 #[.slice A n c] w fun e w' => ∃ A' c', e = .returned (.slice A' n c') ∧ w'.ownsRow w.heap.size 2 1 (.slice A' n c') n (cI xs) ∧ Below w.heap.size w w' := by
  obtain ⟨i0, hi, hz0, hz1, hz2⟩ := info_parts Try.info2
  go_enter Try.func7, Try.ntmps7
  go_wp2_with (refine wpList_make_full _ rfl _ _ 22 rfl w.heap.size 2 i0 (.int .i64 0) 1 Try.underlying22 hi hz0 hz1 .i64 .i64 _ _ n rfl rfl rfl rfl (by rw [hz2]; omega) (by unfold maxLen; omega) (Nat.le_refl _) ?_; intro w1 hown1 hgr1)
  have hb1 : Below w.heap.size w w1 := (Below.refl _ _).grown hgr1 (Nat.le_refl _) (fun k hk => by cases hk)
  have hl := h.len
  go_loopw [4] (fun i wr => ∃ (k : Nat) (cur : List Value), k ≤ n ∧ i = .int .i64 k ∧ wr.ownsRow w.heap.size 2 1 (.slice (some ⟨w.heap.size, 0, none⟩) n n) n cur ∧ cur.take k = cI (xs.take k) ∧ Below w.heap.size w wr) (fun i _ => n - (intOf i).toNat)
  case atStart => exact ⟨0, _, Nat.zero_le _, rfl, hown1, by simp [cI], hb1⟩
  case round =>
    obtain ⟨k, cur, hk, rfl, hown, hcur, hb⟩ := hrel
    have HO := hide hown
    have HC := hide hcur
    clear hown1 hcur
    by_cases hlt : k < n
    · obtain ⟨b, off, x, rfl, hbl, hx, hc, hx1, hx2⟩ := (h.below hb (Nat.le_refl _)).at hlt
      obtain ⟨v0, hc2, hf2, hst⟩ := own_store (k := k) hown (by omega)
      clear hown
      go_wp2
      go_roundw
      case rel =>
        refine ⟨k + 1, _, by omega, by go_num, hst.out _, ?_, hb.setCell (by simp) _⟩
        rw [take_set_snoc (by rw [HO.out.1]; omega), HC.out, take_snoc hx.out]
        simp [cI]
      case measure => simp [intOf]; omega
    · have hkn : k = n := by omega
      subst hkn
      clear hown
      go_wp2
      go_ret
      refine ⟨_, _, rfl, ?_, hb⟩
      have h1 := HC.out
      rw [List.take_of_length_le (by rw [HO.out.1]; omega), List.take_of_length_le (by omega)] at h1
      rw [← h1]
      exact HO.out

set_option maxHeartbeats 400000 in
theorem eqInt64S_calls (A A' : Option Addr) (n n' c c' : Nat) (xs ys : List Int) (w : World) (h : RdI w A n xs) (h' : RdI w A' n' ys) (hn : n ≤ 1048576) (hn' : n' ≤ 1048576) :
    Calls Try.prog 9 #[.slice A n c, .slice A' n' c'] w fun e w' => e = .returned (.bool (decide (xs = ys))) ∧ ∃ m, w' = w.drewN m := by
  have hl := h.len
  have hl' := h'.len
  by_cases hnn : n = n'
  · subst hnn
    have HL := hide hl
    have HL' := hide hl'
    clear hl hl'
    go_enter Try.func9, Try.ntmps9
    go_wp2
    go_loopw [5] (fun i wr => ∃ (k : Nat), k ≤ n ∧ i = .int .i64 k ∧ xs.take k = ys.take k ∧ ∃ m, wr = w.drewN m) (fun i _ => n - (intOf i).toNat)
    case atStart => exact ⟨0, Nat.zero_le _, rfl, by simp, 0, rfl⟩
    case round =>
      obtain ⟨k, hk, rfl, hcur, m, rfl⟩ := hrel
      have HC := hide hcur
      clear hcur
      by_cases hlt : k < n
      · obtain ⟨b, off, x, rfl, hbl, hx, hc, hx1, hx2⟩ := h.at hlt
        obtain ⟨b', off', y, rfl, hbl', hy, hc', hy1, hy2⟩ := h'.at hlt
        by_cases hxy : x = y
        · subst hxy
          go_wp2
          go_quiet (fail)
          go_wp2
          go_roundw
          case rel =>
            refine ⟨k + 1, by omega, by go_num, ?_, (by first | exact ⟨_, rfl⟩ | exact drewN2 _ _ _)⟩
            rw [take_snoc hx.out, take_snoc hy.out, HC.out]
          case measure => simp [intOf]; omega
        · have hne : (x != y) = true := by simpa using hxy
          go_wp2
          go_quiet (fail)
          go_wp2
          go_ret
          exact ⟨ret_bool (decide_eq_false (ne_of_at hx.out hy.out hxy)).symm, drewN2 _ _ _⟩
      · have hkn : k = n := by omega
        subst hkn
        go_wp2
        go_ret
        exact ⟨ret_bool (decide_eq_true (eq_of_takes HL.out HL'.out HC.out)).symm, _, rfl⟩
  · have hne : ((n : Int) != n') = true := by simp; omega
    go_enter Try.func9, Try.ntmps9
    go_wp2
    go_ret
    exact ⟨ret_bool (decide_eq_false (ne_of_len hl hl' hnn)).symm, 0, rfl⟩
end Go.Proofs.Ytmpfkmbfbeejhaa

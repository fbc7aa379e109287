/- Contracts of markInt64S and heldInt64S. -/
import Derived.Test.YtmpfkmbfbeejhaaRows
import Derived.Test.YtmpfkmbfbeejhaaFresh
namespace Go.Proofs.Ytmpfkmbfbeejhaa
open Go.RowKit
set_option linter.unusedVariables false

theorem seqZ_snoc (k : Int) (n : Nat) : seqZ k (n + 1) = seqZ k n ++ [k + n] := rfl

set_option maxHeartbeats 1000000 in
theorem markInt64S_calls (A : Option Addr) (n c : Nat) (lo hi : Nat) (xs : List Int) (k : Int) (w : World) (h : FrI w lo hi 2 A n xs) (hn : n ≤ 1048576) (hk : 0 ≤ k) (hk2 : k ≤ 1099511627776) :
    Calls Try.prog 10 #[.slice A n c, .int .i64 k] w fun e w' => e = .returned (.int .i64 (k + n)) ∧ FrI w' lo hi 2 A n (seqZ k n) ∧ Wr lo hi w w' ∧ w'.heap.size = w.heap.size := by
  have HL := hide h.len
  go_enter Try.func10, Try.ntmps10
  go_wp2
  go_loopw [1, 5] (fun q i wr => ∃ (j : Nat) (cur : List Value), j ≤ n ∧ i = .int .i64 j ∧ q = .int .i64 (k + j) ∧ Hid (Fr wr lo hi 2 1 A n cur ∧ cur.take j = cI (seqZ k j) ∧ wr.heap.size = w.heap.size) ∧ Wr lo hi w wr) (fun _ i _ => n - (intOf i).toNat)
  case atStart => exact ⟨0, _, Nat.zero_le _, rfl, by simp, ⟨h.1, by simp [cI, seqZ], rfl⟩, Wr.refl _ _ _⟩
  case round =>
    obtain ⟨j, cur, hj, rfl, rfl, HF, hw⟩ := hrel
    by_cases hlt : j < n
    · obtain ⟨b, off, v, rfl, hl, hh, hc, hf, hst⟩ := HF.out.1.store (j := j) (by omega)
      go_wp2
      go_roundw
      case rel =>
        refine ⟨j + 1, _, by omega, by go_num, by go_num, ⟨hst.out _, ?_, ?_⟩, hw.trans (Wr.setCell _ _ hl hh)⟩
        · rw [take_set_snoc (by rw [HF.out.1.1]; omega), HF.out.2.1, seqZ_snoc]
          simp [cI]
        · have := HF.out.2.2
          simpa [World.setCell] using this
      case measure => simp [intOf]; omega
    · have hjn : j = n := by omega
      subst hjn
      go_wp2
      go_ret
      have h1 := HF.out.2.1
      rw [List.take_of_length_le (by rw [HF.out.1.1]; omega)] at h1
      refine ⟨rfl, ⟨h1 ▸ HF.out.1, fun x hx => ?_⟩, hw, HF.out.2.2⟩
      have := seqZ_mem hx
      exact ⟨by omega, by omega⟩

set_option maxHeartbeats 1000000 in
theorem heldInt64S_calls (A : Option Addr) (n c : Nat) (k : Int) (w : World) (h : RdI w A n (seqZ k n)) (hn : n ≤ 1048576) (hk : 0 ≤ k) (hk2 : k ≤ 1099511627776) :
    Calls Try.prog 11 #[.slice A n c, .int .i64 k] w fun e w' => e = .returned (.int .i64 (k + n)) ∧ w = w' := by
  go_enter Try.func11, Try.ntmps11
  go_wp2
  go_loop [1, 5] (fun q i => ∃ (j : Nat), j ≤ n ∧ i = .int .i64 j ∧ q = .int .i64 (k + j)) (fun _ i => n - (intOf i).toNat)
  case atStart => exact ⟨0, Nat.zero_le _, rfl, by simp⟩
  case round =>
    obtain ⟨j, hj, rfl, rfl⟩ := hrel
    by_cases hlt : j < n
    · obtain ⟨b, off, x, rfl, hbl, hx, hc, hx1, hx2⟩ := h.at hlt
      have hxe := hx.out
      rw [seqZ_at k hlt] at hxe
      obtain rfl : x = k + j := by simpa using hxe.symm
      clear hxe
      go_wp2
      go_round
      case rel => exact ⟨j + 1, by omega, by go_num, by go_num⟩
      case measure => simp [intOf]; omega
    · have hjn : j = n := by omega
      subst hjn
      go_wp2
      go_ret
      exact ⟨rfl, rfl⟩

end Go.Proofs.Ytmpfkmbfbeejhaa

/- Contracts of markSettingS and heldSettingS. -/
import Derived.Test.YtlomloepdnojoaaDoorRows
import Derived.Test.YtlomloepdnojoaaDoorSet
import Derived.Test.YtlomloepdnojoaaDoorFresh
import Derived.Test.YtlomloepdnojoaaDoorMarkT
namespace Go.Proofs.YtlomloepdnojoaaDoor
open Go.RowKit
set_option linter.unusedVariables false

/-- The marks of n settings, from k on. -/
def markL (k : Nat) : Nat → List SetZ
  | 0 => []
  | n + 1 => markL k n ++ [⟨mT (k + 2 * n), ((k + 2 * n + 1 : Nat) : Int)⟩]
theorem markL_len (k n : Nat) : (markL k n).length = n := by
  induction n with
  | zero => rfl
  | succ n ih => simp [markL, ih]

set_option maxHeartbeats 2000000 in
theorem markSettingSN_calls (A : Option Addr) (n c : Nat) (lo hi : Nat) (cs : List Value) (k : Nat) (w : World) (h : Fr w lo hi 108 2 A n cs) (hn : n ≤ 1048576) (hk : 1 ≤ k) (hk2 : k ≤ 1152921504606846976) (hhi : hi ≤ w.heap.size) :
    Calls Tryd.prog 62 #[.slice A n c, .int .i64 k] w fun e w' => e = .returned (.int .i64 ((k + 2 * n : Nat) : Int)) ∧ Fr w' lo hi 108 2 A n ((markL k n).map cS).flatten ∧ Wr lo hi w w' := by
  go_enter Tryd.func62, Tryd.ntmps62
  go_wp2
  go_loopw [1, 5] (fun q i wr => ∃ (j : Nat), j ≤ n ∧ i = .int .i64 j ∧ q = .int .i64 ((k : Int) + 2 * (j : Int)) ∧ Hid (∃ cur : List Value, Fr wr lo hi 108 2 A n cur ∧ cur.take (j * 2) = ((markL k j).map cS).flatten ∧ hi ≤ wr.heap.size) ∧ Wr lo hi w wr) (fun _ i _ => n - (intOf i).toNat)
  case atStart => exact ⟨0, Nat.zero_le _, rfl, by simp, ⟨cs, h, by simp [markL], hhi⟩, Wr.refl _ _ _⟩
  case round =>
    obtain ⟨j, hj, rfl, rfl, HF, hw⟩ := hrel
    by_cases hlt : j < n
    · go_wp2_with fail
      have e1 : (k : Int) + 2 * (j : Int) = ((k + 2 * j : Nat) : Int) := by omega
      rw [e1]
      clear e1
      refine (markText_calls (k + 2 * j) _ (by omega) (by omega)).mono ?_
      rintro e w2 ⟨rfl, hb2⟩
      obtain ⟨cur, hF, hcur, hhi2⟩ := HF.out
      have hF2 := hF.below hb2 hhi2
      obtain ⟨b, off, v, rfl, hl, hh, hc, hf, hst⟩ := hF2.store (j := j * 2) (by omega)
      obtain ⟨b', off', v', hA, hl', hh', hc', hf', hst'⟩ := (hst.out (.string (mT (k + 2 * j)))).store (j := j * 2 + 1) (by omega)
      obtain ⟨rfl, rfl⟩ : b = b' ∧ off = off' := by injection hA with hA; injection hA; exact ⟨‹_›, ‹_›⟩
      clear hA
      have e2 : off + (j * 2 + 1) = off + j * 2 + 1 := by omega
      rw [e2] at hc' hf' hst'
      clear e2
      have HW := hide (And.intro hF.1 (And.intro hcur (And.intro hhi2 (And.intro hb2 (And.intro hl hh)))))
      clear hF hcur hhi2 hF2 hl' hh'
      go_wp2
      go_roundw
      case rel =>
        obtain ⟨hF1, hcur, hhi2, hb2', hl, hh⟩ := HW.out
        refine ⟨j + 1, by omega, by go_num, by go_num, ⟨_, hst'.out _, ?_, ?_⟩, ?_⟩
        · rw [take_set_snoc2 (by rw [hF1]; omega), hcur, markL]
          simp [cS]
        · have := hb2'.size
          simp only [World.setCell]
          simp
          omega
        · exact ((hw.trans (Wr.of_below hb2')).trans (Wr.setCell _ _ hl hh)).trans (Wr.setCell _ _ hl hh)
      case measure => simp [intOf]; omega
    · have hjn : j = n := by omega
      subst hjn
      go_wp2
      go_ret
      obtain ⟨cur, hF, hcur, hhi2⟩ := HF.out
      rw [List.take_of_length_le (by rw [hF.1]; omega)] at hcur
      exact ⟨by simp, hcur ▸ hF, hw⟩

end Go.Proofs.YtlomloepdnojoaaDoor

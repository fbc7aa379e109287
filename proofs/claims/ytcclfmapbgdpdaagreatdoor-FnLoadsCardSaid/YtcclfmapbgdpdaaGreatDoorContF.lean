/- slices.ContainsFunc over []int64, where no number answers. -/
import Derived.Test.YtcclfmapbgdpdaaGreatDoorMg
namespace Go.Proofs.YtcclfmapbgdpdaaGreatDoor
open Go.RowKit
set_option linter.unusedVariables false

set_option maxHeartbeats 1000000 in
/-- No number answers. -/
theorem indexFI_none (A : Option Addr) (n c : Nat) (xs : List Int) (f : Nat) (caps : Array Value) (w : World) (h : RdI w A n xs) (hn : n ≤ 1048576)
    (hcf : ∀ args w, Sem.run Tryz.prog (callFunc f args) w = .ok (.enter f args) w)
    (hf : ∀ W x, Below w.heap.size w W → x ∈ xs → Calls Tryz.prog f (#[.int .i64 x] ++ caps) W fun e w' => e = .returned (.bool false) ∧ Below W.heap.size W w') :
    Calls Tryz.prog 185 #[.slice A n c, .func (.func f) #[] caps] w fun e w' => e = .returned (.int .i64 (-1)) ∧ Below w.heap.size w w' := by
  have HF := hide hf
  clear hf
  go_enter Tryz.func185, Tryz.ntmps185
  go_wp2
  go_loopw [8] (fun i wr => ∃ (k : Nat), k ≤ n ∧ i = .int .i64 k ∧ Below w.heap.size w wr) (fun i _ => n - (intOf i).toNat)
  case atStart => exact ⟨0, Nat.zero_le _, rfl, Below.refl _ _⟩
  case round =>
    obtain ⟨k, hk, rfl, hb⟩ := hrel
    by_cases hlt : k < n
    · obtain ⟨b, off, s, rfl, hbl, hx, hc, hs1, hs2⟩ := (h.below hb (Nat.le_refl _)).at hlt
      have HM := hide (HF.out wr s hb (List.mem_of_getElem? hx.out))
      go_wp2_with fail
      refine HM.out.mono ?_
      rintro e w2 ⟨rfl, hb2⟩
      go_wp2
      go_roundw
      case rel => exact ⟨k + 1, by omega, by go_num, hb.trans (hb2.mono hb.size)⟩
      case measure => simp [intOf]; omega
    · have hkn : k = n := by omega
      subst hkn
      go_wp2
      go_ret
      exact ⟨rfl, hb⟩
theorem containsFI_none (A : Option Addr) (n c : Nat) (xs : List Int) (f : Nat) (caps : Array Value) (w : World) (h : RdI w A n xs) (hn : n ≤ 1048576)
    (hcf : ∀ args w, Sem.run Tryz.prog (callFunc f args) w = .ok (.enter f args) w)
    (hf : ∀ W x, Below w.heap.size w W → x ∈ xs → Calls Tryz.prog f (#[.int .i64 x] ++ caps) W fun e w' => e = .returned (.bool false) ∧ Below W.heap.size W w') :
    Calls Tryz.prog 117 #[.slice A n c, .func (.func f) #[] caps] w fun e w' => e = .returned (.bool false) ∧ Below w.heap.size w w' := by
  have HC := hide (indexFI_none A n c xs f caps w h hn hcf hf)
  clear h hf hcf
  go_enter Tryz.func117, Tryz.ntmps117
  go_wp2_with fail
  refine HC.out.mono ?_
  rintro e w' ⟨rfl, hb⟩
  go_wp2
  go_ret
  exact ⟨rfl, hb⟩

end Go.Proofs.YtcclfmapbgdpdaaGreatDoor

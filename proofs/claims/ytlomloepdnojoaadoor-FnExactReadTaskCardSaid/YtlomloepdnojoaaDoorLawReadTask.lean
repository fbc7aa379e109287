/- The law FnExactReadTask returns true for all arguments: its walk. Printed by gen_read3.py. -/
import Derived.Test.YtlomloepdnojoaaDoorEqTask3
namespace Go.Proofs.YtlomloepdnojoaaDoor
open Go.RowKit
set_option linter.unusedVariables false

set_option maxHeartbeats 2000000 in
theorem law_ReadTask (a0 : ByteArray) (w : World) (HT : TabPME w) (h0 : a0.size ≤ 9223372036854775807) :
    Calls Tryd.prog 5 #[.string a0] w fun e w' => e = .returned (.bool true) ∧ Below w.heap.size w w' := by
  by_cases hn0 : a0.size ≤ 1048576
  case neg =>
    have hn' : decide ((1048576 : Int) < a0.size) = true := by simp; omega
    go_enter Tryd.func5, Tryd.ntmps5
    go_wp2
    go_ret
    exact ⟨rfl, Below.refl _ _⟩
  have hd0 : decide ((1048576 : Int) < a0.size) = false := by simp; omega
  have HS := hide (specReadTask_calls a0 w hn0)
  have HI : Hid (∀ W, Below w.heap.size w W → Calls Tryd.prog 21 #[.string a0] W (HlpBPost (hrV a0) (hrC a0) W)) := fun W hW => implReadTask_calls a0 W (HT.here hW) hn0
  have HE : Hid (∀ (x : HlpZ) W, Calls Tryd.prog 22 #[.agg #[.string x.id, .int .i64 x.sk, .int .i64 x.n], .agg #[.string x.id, .int .i64 x.sk, .int .i64 x.n]] W fun e w' => e = .returned (.bool true) ∧ Below W.heap.size W w') := by
    intro x W
    refine (eqTask_calls x.id x.sk x.n x.id x.sk x.n W).mono ?_
    rintro e w' ⟨rfl, hb⟩
    exact ⟨by rw [eqTaskB_iff.2 rfl], hb⟩
  unfold HlpBPost at HS HI
  generalize hrV a0 = V at *
  generalize hrC a0 = C at *
  obtain ⟨v0, v1, v2⟩ := V
  have HE1 := hide (HE.out ⟨v0, v1, v2⟩)
  simp only at HS HI HE1
  clear HE hn0
  go_enter Tryd.func5, Tryd.ntmps5
  go_wp2_with fail
  refine HS.out.mono ?_
  rintro e w1 ⟨rfl, hb1⟩
  obtain ⟨W1, hW1⟩ : ∃ W1, W1 = w1.alloc (.cells #[.string v0, .int .i64 v1, .int .i64 v2] 38) := ⟨_, rfl⟩
  have hw1 : Below w1.heap.size w1 W1 := by rw [hW1]; exact (Below.refl _ _).alloc (Nat.le_refl _) _
  have hB1 := hb1.trans (hw1.mono hb1.size)
  have HA1 : Hid (At3 38 W1 w1.heap.size (.string v0) (.int .i64 v1) (.int .i64 v2)) := by rw [hW1]; exact At3.new _ _ _ _ _
  have hx1 : w1.heap.size < W1.heap.size := by rw [hW1]; simp
  go_wp2_with fail
  rw [← hW1]
  clear hW1
  refine (HI.out W1 hB1).mono ?_
  rintro e w2 ⟨rfl, hb2⟩
  obtain ⟨d0, d1, d2, _⟩ := (HA1.out.below hb2 hx1).out
  have hx2 := Nat.lt_of_lt_of_le hx1 hb2.size
  have hB2 := hB1.trans (hb2.mono hB1.size)
  cases C
  all_goals
    go_wp2_with fail
    refine (HE1.out _).mono ?_
    rintro e w3 ⟨rfl, hb3⟩
    go_wp2
    go_ret
    exact ⟨rfl, (hB2.alloc hB2.size _).trans (hb3.mono (Nat.le_trans hB2.size (by simp)))⟩

end Go.Proofs.YtlomloepdnojoaaDoor

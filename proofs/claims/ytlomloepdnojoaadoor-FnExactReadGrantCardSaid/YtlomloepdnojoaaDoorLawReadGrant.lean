/- The law FnExactReadGrant returns true for all arguments: its walk. Printed by gen_read3.py. -/
import Derived.Test.YtlomloepdnojoaaDoorEqGrant3
namespace Go.Proofs.YtlomloepdnojoaaDoor
open Go.RowKit
set_option linter.unusedVariables false

set_option maxHeartbeats 2000000 in
theorem law_ReadGrant (a0 : ByteArray) (w : World) (HT : TabM w) (h0 : a0.size ≤ 9223372036854775807) :
    Calls Tryd.prog 8 #[.string a0] w fun e w' => e = .returned (.bool true) ∧ Below w.heap.size w w' := by
  by_cases hn0 : a0.size ≤ 1048576
  case neg =>
    have hn' : decide ((1048576 : Int) < a0.size) = true := by simp; omega
    go_enter Tryd.func8, Tryd.ntmps8
    go_wp2
    go_ret
    exact ⟨rfl, Below.refl _ _⟩
  have hd0 : decide ((1048576 : Int) < a0.size) = false := by simp; omega
  have HS := hide (specReadGrant_calls a0 w hn0)
  have HI : Hid (∀ W, Below w.heap.size w W → Calls Tryd.prog 32 #[.string a0] W (GrBPost (rgV a0) (rgC a0) W)) := fun W hW => implReadGrant_calls a0 W (HT.here hW) hn0
  have HE : Hid (∀ (x : GrantZ) W, Calls Tryd.prog 33 #[.agg #[.string x.role, .string x.object, .int .i64 x.action], .agg #[.string x.role, .string x.object, .int .i64 x.action]] W fun e w' => e = .returned (.bool true) ∧ Below W.heap.size W w') := by
    intro x W
    refine (eqGrant_calls x.role x.object x.action x.role x.object x.action W).mono ?_
    rintro e w' ⟨rfl, hb⟩
    exact ⟨by rw [eqGrantB_iff.2 rfl], hb⟩
  unfold GrBPost at HS HI
  generalize rgV a0 = V at *
  generalize rgC a0 = C at *
  obtain ⟨v0, v1, v2⟩ := V
  have HE1 := hide (HE.out ⟨v0, v1, v2⟩)
  simp only at HS HI HE1
  clear HE hn0
  go_enter Tryd.func8, Tryd.ntmps8
  go_wp2_with fail
  refine HS.out.mono ?_
  rintro e w1 ⟨rfl, hb1⟩
  obtain ⟨W1, hW1⟩ : ∃ W1, W1 = w1.alloc (.cells #[.string v0, .string v1, .int .i64 v2] 51) := ⟨_, rfl⟩
  have hw1 : Below w1.heap.size w1 W1 := by rw [hW1]; exact (Below.refl _ _).alloc (Nat.le_refl _) _
  have hB1 := hb1.trans (hw1.mono hb1.size)
  have HA1 : Hid (At3 51 W1 w1.heap.size (.string v0) (.string v1) (.int .i64 v2)) := by rw [hW1]; exact At3.new _ _ _ _ _
  have hx1 : w1.heap.size < W1.heap.size := by rw [hW1]; simp
  go_wp2_with fail
  rw [← hW1]
  clear hW1
  refine (HI.out W1 hB1).mono ?_
  rintro e w2 ⟨rfl, hb2⟩
  obtain ⟨d0, d1, d2, _⟩ := (HA1.out.below hb2 hx1).out
  have hx2 := Nat.lt_of_lt_of_le hx1 hb2.size
  have hB2 := hB1.trans (hb2.mono hB1.size)
  cases C
  all_goals
    go_wp2_with fail
    refine (HE1.out _).mono ?_
    rintro e w3 ⟨rfl, hb3⟩
    go_wp2
    go_ret
    exact ⟨rfl, (hB2.alloc hB2.size _).trans (hb3.mono (Nat.le_trans hB2.size (by simp)))⟩

end Go.Proofs.YtlomloepdnojoaaDoor

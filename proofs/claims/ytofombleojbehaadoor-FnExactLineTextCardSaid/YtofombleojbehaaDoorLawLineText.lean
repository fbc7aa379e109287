/- The law FnExactLineText returns true for all arguments: its walk. -/
import Derived.Test.YtofombleojbehaaDoorLineT
namespace Go.Proofs.YtofombleojbehaaDoor
open Go.RowKit
set_option linter.unusedVariables false

set_option maxHeartbeats 2000000 in
theorem law_LineText (x0 : LineZ) (w : World) (HT : TabPM w) (h0 : kLine.fine x0) :
    Calls Tryd.prog 4 #[.agg #[.int .i64 x0.day, .int .i64 x0.minute, .string x0.text, .int .i64 x0.crc]] w fun e w' => e = .returned (.bool true) ∧ Below w.heap.size w w' := by
  obtain ⟨W0, hW0⟩ : ∃ W0 : World, W0 = (w.alloc (.cells #[.int .i64 x0.day, .int .i64 x0.minute, .string x0.text, .int .i64 x0.crc] 34)) := ⟨_, rfl⟩
  have B0 : Below w.heap.size w W0 := by rw [hW0]; exact ((Below.refl w.heap.size w).alloc (by first | exact Nat.le_refl _ | (simp; done) | (simp; omega)) _)
  have hbox0 : W0.cell? ⟨w.heap.size, 0, none⟩ = some (.int .i64 x0.day) ∧ W0.cell? ⟨w.heap.size, 1, none⟩ = some (.int .i64 x0.minute) ∧ W0.cell? ⟨w.heap.size, 2, none⟩ = some (.string x0.text) ∧ W0.cell? ⟨w.heap.size, 3, none⟩ = some (.int .i64 x0.crc) := by rw [hW0]; simp
  have hlt0 : w.heap.size < W0.heap.size := by rw [hW0]; simp
  have HX0 := hide hbox0
  clear hbox0
  have C0 := Below.refl W0.heap.size W0
  go_enter Tryd.func4, Tryd.ntmps4
  go_wp2_with fail
  rw [← hW0]
  clear hW0
  obtain ⟨e0_0, e0_1, e0_2, e0_3⟩ := HX0.out
  replace e0_0 := (C0.cell hlt0).trans e0_0
  replace e0_1 := (C0.cell hlt0).trans e0_1
  replace e0_2 := (C0.cell hlt0).trans e0_2
  replace e0_3 := (C0.cell hlt0).trans e0_3
  go_wp2_with fail
  refine (szLine_calls _ _ _ _ _ _ (by omega) (by omega) h0.2.2.1).mono ?_
  rintro e w1 ⟨r0, rfl, ra0, rb0, rc0, hz0⟩
  clear e0_0 e0_1 e0_2 e0_3
  have B1 := B0.trans (Below.mono hz0 B0.size)
  have C1 := C0.trans (Below.mono hz0 C0.size)
  by_cases hneg0 : r0 < 0
  case pos =>
    go_wp2
    go_ret
    exact ⟨rfl, B1⟩
  have HF0 := hide (rc0 (by omega))
  clear rc0
  obtain ⟨e0_0, e0_1, e0_2, e0_3⟩ := HX0.out
  replace e0_0 := (C1.cell hlt0).trans e0_0
  replace e0_1 := (C1.cell hlt0).trans e0_1
  replace e0_2 := (C1.cell hlt0).trans e0_2
  replace e0_3 := (C1.cell hlt0).trans e0_3
  go_wp2_with fail
  refine (toLine_calls _ _ _ _ _).mono ?_
  rintro e w2 ⟨rfl, hgS0⟩
  clear e0_0 e0_1 e0_2 e0_3
  have B2 := B1.trans (Below.mono hgS0 B1.size)
  have C2 := C1.trans (Below.mono hgS0 C1.size)
  go_wp2_with fail
  refine (specLineText_calls x0 _ h0  (by have := HF0.out; omega)).mono ?_
  rintro e w3 ⟨rfl, hbS⟩
  have B3 := B2.trans (Below.mono hbS B2.size)
  have C3 := C2.trans (Below.mono hbS C2.size)
  obtain ⟨e0_0, e0_1, e0_2, e0_3⟩ := HX0.out
  replace e0_0 := (C3.cell hlt0).trans e0_0
  replace e0_1 := (C3.cell hlt0).trans e0_1
  replace e0_2 := (C3.cell hlt0).trans e0_2
  replace e0_3 := (C3.cell hlt0).trans e0_3
  go_wp2_with fail
  refine (toLine_calls _ _ _ _ _).mono ?_
  rintro e w4 ⟨rfl, hgI0⟩
  clear e0_0 e0_1 e0_2 e0_3
  have B4 := B3.trans (Below.mono hgI0 B3.size)
  have C4 := C3.trans (Below.mono hgI0 C3.size)
  go_wp2_with fail
  refine (implLineText_calls x0 _ (HT.below B4 (Nat.le_refl _)) h0  (by have := HF0.out; omega)).mono ?_
  rintro e w5 ⟨rfl, hbI⟩
  have B5 := B4.trans (Below.mono hbI B4.size)
  have C5 := C4.trans (Below.mono hbI C4.size)
  go_wp2
  go_ret
  exact ⟨rfl, B5⟩

end Go.Proofs.YtofombleojbehaaDoor

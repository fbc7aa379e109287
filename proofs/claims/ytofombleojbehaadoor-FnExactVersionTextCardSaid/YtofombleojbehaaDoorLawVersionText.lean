/- The law FnExactVersionText returns true for all arguments: its walk. -/
import Derived.Test.YtofombleojbehaaDoorVerI
namespace Go.Proofs.YtofombleojbehaaDoor
open Go.RowKit
set_option linter.unusedVariables false

set_option maxRecDepth 100000 in
set_option maxHeartbeats 4000000 in
theorem law_VersionText (x0 : VerC) (w : World) (HT : TabP w) (h0 : x0.fine w) :
    Calls Tryd.prog 3 #[.agg #[.int .i64 x0.number, .int .i64 x0.parent, .string x0.memo, .slice x0.A x0.n x0.c]] w fun e w' => e = .returned (.bool true) ∧ Below w.heap.size w w' := by
  obtain ⟨nu, pa, me, A, n, c, st⟩ := x0
  obtain ⟨hnu, hpa, hme, hrd, hn9⟩ := h0
  simp only at hnu hpa hme hrd hn9 ⊢
  obtain ⟨W0, hW0⟩ : ∃ W0 : World, W0 = (w.alloc (.cells #[.int .i64 nu, .int .i64 pa, .string me, .slice A n c] 24)) := ⟨_, rfl⟩
  have B0 : Below w.heap.size w W0 := by rw [hW0]; exact (Below.refl w.heap.size w).alloc (Nat.le_refl _) _
  have HX0 : Hid (W0.cell? ⟨w.heap.size, 0, none⟩ = some (.int .i64 nu) ∧ W0.cell? ⟨w.heap.size, 1, none⟩ = some (.int .i64 pa) ∧ W0.cell? ⟨w.heap.size, 2, none⟩ = some (.string me) ∧ W0.cell? ⟨w.heap.size, 3, none⟩ = some (.slice A n c)) := by rw [hW0]; unfold Hid; simp
  have hlt0 : w.heap.size < W0.heap.size := by rw [hW0]; simp
  have HRD : Hid (∀ W, Below w.heap.size w W → RdS W A n st) := fun W hW => hrd.below hW (Nat.le_refl _)
  have HSZ := hide (szVersion_calls nu pa me A n c st 1048576 W0 (HRD.out W0 B0) (by omega) (by omega) hme hn9)
  have HTO : Hid (n ≤ 1048576 → ∀ W, Below w.heap.size w W → Calls Tryd.prog 16 #[.agg #[.int .i64 nu, .int .i64 pa, .string me, .slice A n c]] W fun e w' => ∃ A' c', e = .returned (.agg #[.int .i64 nu, .int .i64 pa, .string me, .slice A' n c']) ∧ Fr w' W.heap.size w'.heap.size 74 2 A' n (st.map cS).flatten ∧ Below W.heap.size W w') := fun hn W hW => toVersion_calls nu pa me A n c st W (HRD.out W hW) hn
  have HFI := hide hrd.2
  clear hrd
  go_enter Tryd.func3, Tryd.ntmps3
  obtain ⟨e0, e1, e2, e3⟩ := HX0.out
  go_wp2_with fail
  rw [← hW0]
  clear hW0
  refine HSZ.out.mono ?_
  rintro e w1 ⟨r0, rfl, ra0, rb0, rc0, hb1⟩
  have B1 := B0.trans (hb1.mono B0.size)
  have hlt1 := Nat.lt_of_lt_of_le hlt0 hb1.size
  have HX1 : Hid (∀ k v, W0.cell? ⟨w.heap.size, k, none⟩ = some v → w1.cell? ⟨w.heap.size, k, none⟩ = some v) := fun k v hk => (hb1.cell (p := ⟨w.heap.size, k, none⟩) hlt0).trans hk
  by_cases hneg0 : r0 < 0
  case pos =>
    go_wp2
    go_ret
    exact ⟨rfl, B1⟩
  have hsm := rc0 (by omega)
  unfold small at hsm
  have hn : n ≤ 1048576 := by omega
  have HTO1 := hide (HTO.out hn)
  have d0 := HX1.out 0 _ e0
  have d1 := HX1.out 1 _ e1
  have d2 := HX1.out 2 _ e2
  have d3 := HX1.out 3 _ e3
  clear e0 e1 e2 e3 HX1 HSZ HTO hb1 rc0
  go_wp2_with fail
  refine (HTO1.out w1 B1).mono ?_
  rintro e w2 ⟨A2, c2, rfl, hf2, hb2⟩
  have hR2 : RdS w2 A2 n st := ⟨hf2.rd, HFI.out⟩
  have B2 := B1.trans (hb2.mono B1.size)
  go_wp2_with fail
  refine (specVersionText_calls nu pa me A2 n c2 st w2 hR2 hnu hpa hme hn).mono ?_
  rintro e w3 ⟨rfl, hb3⟩
  have B3 := B2.trans (hb3.mono B2.size)
  have hb13 := hb2.trans (hb3.mono hb2.size)
  have e0 := (hb13.cell (p := ⟨w.heap.size, 0, none⟩) hlt1).trans d0
  have e1 := (hb13.cell (p := ⟨w.heap.size, 1, none⟩) hlt1).trans d1
  have e2 := (hb13.cell (p := ⟨w.heap.size, 2, none⟩) hlt1).trans d2
  have e3 := (hb13.cell (p := ⟨w.heap.size, 3, none⟩) hlt1).trans d3
  have hlt3 := Nat.lt_of_lt_of_le hlt1 hb13.size
  clear d0 d1 d2 d3 hR2 hf2 hb2 hb3
  go_wp2_with fail
  refine (HTO1.out w3 B3).mono ?_
  rintro e w4 ⟨A4, c4, rfl, hf4, hb4⟩
  have B4 := B3.trans (hb4.mono B3.size)
  have d0 := (hb4.cell (p := ⟨w.heap.size, 0, none⟩) hlt3).trans e0
  have d1 := (hb4.cell (p := ⟨w.heap.size, 1, none⟩) hlt3).trans e1
  have d2 := (hb4.cell (p := ⟨w.heap.size, 2, none⟩) hlt3).trans e2
  have d3 := (hb4.cell (p := ⟨w.heap.size, 3, none⟩) hlt3).trans e3
  have hlt4 := Nat.lt_of_lt_of_le hlt3 hb4.size
  obtain ⟨W5, hW5⟩ : ∃ W5, W5 = w4.alloc (.cells #[.int .i64 nu, .int .i64 pa, .string me, .slice A4 n c4] 29) := ⟨_, rfl⟩
  have hw5 : Below w4.heap.size w4 W5 := by rw [hW5]; exact (Below.refl _ _).alloc (Nat.le_refl _) _
  have B5 := B4.trans (hw5.mono B4.size)
  have g0 : W5.cell? ⟨w4.heap.size, 0, none⟩ = some (.int .i64 nu) := by rw [hW5]; simp
  have g1 : W5.cell? ⟨w4.heap.size, 1, none⟩ = some (.int .i64 pa) := by rw [hW5]; simp
  have g2 : W5.cell? ⟨w4.heap.size, 2, none⟩ = some (.string me) := by rw [hW5]; simp
  have g3 : W5.cell? ⟨w4.heap.size, 3, none⟩ = some (.slice A4 n c4) := by rw [hW5]; simp
  have q0 := (hw5.cell (p := ⟨w.heap.size, 0, none⟩) hlt4).trans d0
  have q1 := (hw5.cell (p := ⟨w.heap.size, 1, none⟩) hlt4).trans d1
  have q2 := (hw5.cell (p := ⟨w.heap.size, 2, none⟩) hlt4).trans d2
  have q3 := (hw5.cell (p := ⟨w.heap.size, 3, none⟩) hlt4).trans d3
  have hz5 : w4.heap.size < W5.heap.size := by rw [hW5]; simp
  have hlt5 : w.heap.size < W5.heap.size := by omega
  have hR4 : RdS w4 A4 n st := ⟨hf4.rd, HFI.out⟩
  have hR5 := hR4.below hw5 (Nat.le_refl _)
  have HIM := hide (implVersionText_calls nu pa me A4 n c4 st W5 (HT.here B5) hR5 hnu hpa hme hn)
  clear e0 e1 e2 e3 d0 d1 d2 d3 hf4
  go_wp2_with fail
  rw [← hW5]
  clear hW5
  refine HIM.out.mono ?_
  rintro e w6 ⟨rfl, hb6⟩
  have B6 := B5.trans (hb6.mono B5.size)
  have k0 := (hb6.cell (p := ⟨w4.heap.size, 0, none⟩) hz5).trans g0
  have k1 := (hb6.cell (p := ⟨w4.heap.size, 1, none⟩) hz5).trans g1
  have k2 := (hb6.cell (p := ⟨w4.heap.size, 2, none⟩) hz5).trans g2
  have k3 := (hb6.cell (p := ⟨w4.heap.size, 3, none⟩) hz5).trans g3
  have y0 := (hb6.cell (p := ⟨w.heap.size, 0, none⟩) hlt5).trans q0
  have y1 := (hb6.cell (p := ⟨w.heap.size, 1, none⟩) hlt5).trans q1
  have y2 := (hb6.cell (p := ⟨w.heap.size, 2, none⟩) hlt5).trans q2
  have y3 := (hb6.cell (p := ⟨w.heap.size, 3, none⟩) hlt5).trans q3
  have hz6 := Nat.lt_of_lt_of_le hz5 hb6.size
  have hlt6 := Nat.lt_of_lt_of_le hlt5 hb6.size
  have HR6 := hide (hR5.below hb6 (Nat.le_refl _))
  have HT2 : Hid (Calls Tryd.prog 16 #[.agg #[.int .i64 nu, .int .i64 pa, .string me, .slice A n c]] w6.drew fun e w' => ∃ A' c', e = .returned (.agg #[.int .i64 nu, .int .i64 pa, .string me, .slice A' n c']) ∧ RdS w' A' n st ∧ Below w6.heap.size w6 w') := by
    refine (HTO1.out w6.drew B6.drew).mono ?_
    rintro e w' ⟨A', c', rfl, hf, hb⟩
    exact ⟨A', c', rfl, ⟨hf.rd, HFI.out⟩, (Below.refl _ w6).drew.trans hb⟩
  have HEQ : Hid (∀ A' c' w7, RdS w7 A' n st → Below w6.heap.size w6 w7 → Calls Tryd.prog 18 #[.agg #[.int .i64 nu, .int .i64 pa, .string me, .slice A4 n c4], .agg #[.int .i64 nu, .int .i64 pa, .string me, .slice A' n c']] w7 fun e w' => e = .returned (.bool true) ∧ Below w6.heap.size w6 w') := by
    intro A' c' w7 hr hb
    refine (eqVersion_calls nu pa nu pa me me A4 A' n c4 n c' st st w7 (HR6.out.below hb (Nat.le_refl _)) hr hn hn).mono ?_
    rintro e w' ⟨rfl, hb2⟩
    refine ⟨ret_bool ?_, hb.trans (hb2.mono hb.size)⟩
    rw [eqVB_st]; simp
  clear hb6 g0 g1 g2 g3 q0 q1 q2 q3 hb4 hw5 hR4 hR5 HIM HTO1
  go_wp2
  go_region_held3 (fun w' => (w'.cell? ⟨w4.heap.size, 0, none⟩ = some (.int .i64 nu) ∧ w'.cell? ⟨w4.heap.size, 1, none⟩ = some (.int .i64 pa) ∧ w'.cell? ⟨w4.heap.size, 2, none⟩ = some (.string me) ∧ w'.cell? ⟨w4.heap.size, 3, none⟩ = some (.slice A4 n c4)) ∧ w'.cell? ⟨w.heap.size, 0, none⟩ = some (.int .i64 nu) ∧ w'.cell? ⟨w.heap.size, 1, none⟩ = some (.int .i64 pa) ∧ w'.cell? ⟨w.heap.size, 2, none⟩ = some (.string me) ∧ w'.cell? ⟨w.heap.size, 3, none⟩ = some (.slice A n c))
    (first | exact ⟨⟨k0, k1, k2, k3⟩, y0, y1, y2, y3⟩ | exact ⟨⟨(hb8.cell (p := ⟨w4.heap.size, 0, none⟩) hz6).trans k0, (hb8.cell (p := ⟨w4.heap.size, 1, none⟩) hz6).trans k1, (hb8.cell (p := ⟨w4.heap.size, 2, none⟩) hz6).trans k2, (hb8.cell (p := ⟨w4.heap.size, 3, none⟩) hz6).trans k3⟩, (hb8.cell (p := ⟨w.heap.size, 0, none⟩) hlt6).trans y0, (hb8.cell (p := ⟨w.heap.size, 1, none⟩) hlt6).trans y1, (hb8.cell (p := ⟨w.heap.size, 2, none⟩) hlt6).trans y2, (hb8.cell (p := ⟨w.heap.size, 3, none⟩) hlt6).trans y3⟩ | exact ⟨⟨(hb7.cell (p := ⟨w4.heap.size, 0, none⟩) hz6).trans k0, (hb7.cell (p := ⟨w4.heap.size, 1, none⟩) hz6).trans k1, (hb7.cell (p := ⟨w4.heap.size, 2, none⟩) hz6).trans k2, (hb7.cell (p := ⟨w4.heap.size, 3, none⟩) hz6).trans k3⟩, (hb7.cell (p := ⟨w.heap.size, 0, none⟩) hlt6).trans y0, (hb7.cell (p := ⟨w.heap.size, 1, none⟩) hlt6).trans y1, (hb7.cell (p := ⟨w.heap.size, 2, none⟩) hlt6).trans y2, (hb7.cell (p := ⟨w.heap.size, 3, none⟩) hlt6).trans y3⟩)
    (first
      | ((with_reducible refine HT2.out.mono ?_); rintro e w7 ⟨A7, c7, rfl, hr7, hb7⟩)
      | ((with_reducible refine (HEQ.out A7 c7 w7 hr7 hb7).mono ?_); rintro e w8 ⟨rfl, hb8⟩)
      | fail)
  all_goals
    go_wp2
    go_ret
    exact ⟨rfl, B6.trans (hb8.mono B6.size)⟩

end Go.Proofs.YtofombleojbehaaDoor

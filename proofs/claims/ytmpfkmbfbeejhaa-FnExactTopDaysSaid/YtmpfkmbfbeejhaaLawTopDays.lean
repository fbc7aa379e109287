/- The law FnExactTopDays returns true for all arguments: its walk. -/
import Derived.Test.YtmpfkmbfbeejhaaTopJ
import Derived.Test.YtmpfkmbfbeejhaaMarkI
import Derived.Test.YtmpfkmbfbeejhaaHelpI
namespace Go.Proofs.Ytmpfkmbfbeejhaa
open Go.RowKit
set_option linter.unusedVariables false

set_option maxHeartbeats 4000000 in
theorem law_TopDays (A0 : Option Addr) (n0 c0 : Nat) (x0 : List Int) (a1 : Int) (w : World) (h0 : RdI w A0 n0 x0) (h1 : I64 a1) :
    Calls Try.prog 3 #[.slice A0 n0 c0, .int .i64 a1] w fun e w' => e = .returned (.bool true) ∧ Below w.heap.size w w' := by
  by_cases hn0 : n0 ≤ 1048576
  case neg =>
    have hn' : decide ((1048576 : Int) < n0) = true := by simp; omega
    go_enter Try.func3, Try.ntmps3
    go_wp2
    go_ret
    exact ⟨rfl, Below.refl _ _⟩
  have hd0 : decide ((1048576 : Int) < n0) = false := by simp; omega
  have B0 := Below.refl w.heap.size w
  have z0 : w.heap.size ≤ w.heap.size := Nat.le_refl _
  go_enter Try.func3, Try.ntmps3
  go_wp2_with fail
  refine (toInt64S_calls _ _ _ _ _ (RdI.below h0 B0 (Nat.le_refl _)) hn0).mono ?_
  rintro e w1 ⟨As0, cs0, rfl, hos0, hbs0⟩
  have z1 := hbs0.size
  have B1 := B0.trans (Below.mono hbs0 B0.size)
  have rs0 := FrI.of_own hos0 h0.2
  go_wp2_with fail
  refine (specTopDays_calls _ _ _ _ _ _ rs0.rd h1 hn0).mono ?_
  rintro e w2 ⟨Aw0, nw0, cw0, rfl, rw0, Nw0, hbw⟩
  have z2 := hbw.size
  have B2 := B1.trans (Below.mono hbw B1.size)
  have rs0 := FrI.below rs0 hbw (by omega)
  go_wp2_with fail
  refine (toInt64S_calls _ _ _ _ _ (RdI.below h0 B2 (Nat.le_refl _)) hn0).mono ?_
  rintro e w3 ⟨Ai0, ci0, rfl, hoi0, hbi0⟩
  have z3 := hbi0.size
  have B3 := B2.trans (Below.mono hbi0 B2.size)
  have rw0 := FrI.below rw0 hbi0 (by omega)
  have ri0 := FrI.of_own hoi0 h0.2
  go_wp2_with fail
  refine (implTopDays_calls _ _ _ _ _ _ ri0.rd h1 hn0).mono ?_
  rintro e w4 ⟨Ag0, ng0, cg0, rfl, rg0, Ng0, hbg⟩
  have z4 := hbg.size
  have B4 := B3.trans (Below.mono hbg B3.size)
  have rw0 := FrI.below rw0 hbg (by omega)
  have ri0 := FrI.below ri0 hbg (by omega)
  go_wp2_with fail
  refine (eqInt64S_calls _ _ _ _ _ _ _ _ _ rg0.rd rw0.rd Ng0 Nw0).mono ?_
  rintro e w5 ⟨rfl, hqp0⟩
  have hbp0 := below_of_draws hqp0
  clear hqp0
  have z5 := hbp0.size
  have B5 := B4.trans (Below.mono hbp0 B4.size)
  have rw0 := FrI.below rw0 hbp0 (by omega)
  have ri0 := FrI.below ri0 hbp0 (by omega)
  have rg0 := FrI.below rg0 hbp0 (by omega)
  go_wp2_with fail
  refine (toInt64S_calls _ _ _ _ _ (RdI.below h0 B5 (Nat.le_refl _)) hn0).mono ?_
  rintro e w6 ⟨Ae0, ce0, rfl, hoe0, hbe0⟩
  have z6 := hbe0.size
  have B6 := B5.trans (Below.mono hbe0 B5.size)
  have rw0 := FrI.below rw0 hbe0 (by omega)
  have ri0 := FrI.below ri0 hbe0 (by omega)
  have rg0 := FrI.below rg0 hbe0 (by omega)
  have re0 := FrI.of_own hoe0 h0.2
  go_wp2_with fail
  refine (eqInt64S_calls _ _ _ _ _ _ _ _ _ ri0.rd re0.rd hn0 hn0).mono ?_
  rintro e w7 ⟨rfl, hqq0⟩
  have hbq0 := below_of_draws hqq0
  clear hqq0
  have z7 := hbq0.size
  have B7 := B6.trans (Below.mono hbq0 B6.size)
  have rw0 := FrI.below rw0 hbq0 (by omega)
  have ri0 := FrI.below ri0 hbq0 (by omega)
  have rg0 := FrI.below rg0 hbq0 (by omega)
  have re0 := FrI.below re0 hbq0 (by omega)
  go_wp2_with fail
  refine (markInt64S_calls _ _ _ _ _ _ _ _ ri0 hn0 (by omega) (by omega)).mono ?_
  rintro e w8 ⟨rfl, rk0, wk0, zk0⟩
  have z8 := wk0.size
  have B8 := Wr.below B7 wk0 (by omega) B7.size
  have rw0 := FrI.wr rw0 wk0 (by omega)
  have rg0 := FrI.wr rg0 wk0 (by omega)
  clear ri0 zk0
  go_wp2_with fail
  refine (eqInt64S_calls _ _ _ _ _ _ _ _ _ rg0.rd rw0.rd Ng0 Nw0).mono ?_
  rintro e w9 ⟨rfl, hqr0⟩
  have hbr0 := below_of_draws hqr0
  clear hqr0
  have z9 := hbr0.size
  have B9 := B8.trans (Below.mono hbr0 B8.size)
  have rw0 := FrI.below rw0 hbr0 (by omega)
  have rg0 := FrI.below rg0 hbr0 (by omega)
  go_wp2_with fail
  refine (markInt64S_calls _ _ _ _ _ _ _ _ rg0 Ng0 (by omega) (by omega)).mono ?_
  rintro e w10 ⟨rfl, rm0, wm0, zm0⟩
  have z10 := wm0.size
  have B10 := Wr.below B9 wm0 (by omega) B9.size
  have rw0 := FrI.wr rw0 wm0 (by omega)
  clear rg0 zm0
  go_wp2_with fail
  refine (heldInt64S_calls _ _ _ _ _ rm0.rd Ng0 (by omega) (by omega)).mono ?_
  rintro e w11 ⟨rfl, rfl⟩
  go_wp2_with fail
  refine (toInt64S_calls _ _ _ _ _ (RdI.below h0 B10 (Nat.le_refl _)) hn0).mono ?_
  rintro e w11 ⟨Aj0, cj0, rfl, hoj0, hbj0⟩
  have z11 := hbj0.size
  have B11 := B10.trans (Below.mono hbj0 B10.size)
  have rw0 := FrI.below rw0 hbj0 (by omega)
  have rm0 := FrI.below rm0 hbj0 (by omega)
  have rj0 := FrI.of_own hoj0 h0.2
  go_wp2_with fail
  refine (implTopDays_calls _ _ _ _ _ _ rj0.rd h1 hn0).mono ?_
  rintro e w12 ⟨Ah0, nh0, ch0, rfl, rh0, Nh0, hbh⟩
  have z12 := hbh.size
  have B12 := B11.trans (Below.mono hbh B11.size)
  have rw0 := FrI.below rw0 hbh (by omega)
  have rm0 := FrI.below rm0 hbh (by omega)
  have rj0 := FrI.below rj0 hbh (by omega)
  go_wp2_with fail
  refine (eqInt64S_calls _ _ _ _ _ _ _ _ _ rh0.rd rw0.rd Nh0 Nw0).mono ?_
  rintro e w13 ⟨rfl, hqv0⟩
  have hbv0 := below_of_draws hqv0
  clear hqv0
  have z13 := hbv0.size
  have B13 := B12.trans (Below.mono hbv0 B12.size)
  have rw0 := FrI.below rw0 hbv0 (by omega)
  have rm0 := FrI.below rm0 hbv0 (by omega)
  have rh0 := FrI.below rh0 hbv0 (by omega)
  go_wp2_with fail
  refine (heldInt64S_calls _ _ _ _ _ rm0.rd Ng0 (by omega) (by omega)).mono ?_
  rintro e w14 ⟨rfl, rfl⟩
  go_wp2
  go_ret
  exact ⟨rfl, B13⟩

end Go.Proofs.Ytmpfkmbfbeejhaa

/- The law FnExactFillGaps returns true for all arguments: its walk. -/
import Derived.Test.YtmhmfoeibgdjcaaGaps
import Derived.Test.YtmhmfoeibgdjcaaMarkI
import Derived.Test.YtmhmfoeibgdjcaaHelpI
namespace Go.Proofs.Ytmhmfoeibgdjcaa
open Go.RowKit
set_option linter.unusedVariables false

set_option maxHeartbeats 4000000 in
theorem law_FillGaps (A0 : Option Addr) (n0 c0 : Nat) (x0 : List Int) (A1 : Option Addr) (n1 c1 : Nat) (x1 : List Int) (w : World) (h0 : RdI w A0 n0 x0) (h1 : RdI w A1 n1 x1) :
    Calls Try.prog 8 #[.slice A0 n0 c0, .slice A1 n1 c1] w fun e w' => e = .returned (.bool true) ∧ Below w.heap.size w w' := by
  by_cases hn0 : n0 ≤ 1048576
  case neg =>
    have hn' : decide ((1048576 : Int) < n0) = true := by simp; omega
    go_enter Try.func8, Try.ntmps8
    go_wp2
    go_ret
    exact ⟨rfl, Below.refl _ _⟩
  have hd0 : decide ((1048576 : Int) < n0) = false := by simp; omega
  by_cases hn1 : n1 ≤ 1048576
  case neg =>
    have hn' : decide ((1048576 : Int) < n1) = true := by simp; omega
    go_enter Try.func8, Try.ntmps8
    go_wp2
    go_ret
    exact ⟨rfl, Below.refl _ _⟩
  have hd1 : decide ((1048576 : Int) < n1) = false := by simp; omega
  have B0 := Below.refl w.heap.size w
  have z0 : w.heap.size ≤ w.heap.size := Nat.le_refl _
  go_enter Try.func8, Try.ntmps8
  go_wp2_with fail
  refine (toInt64S_calls _ _ _ _ _ (RdI.below h0 B0 (Nat.le_refl _)) hn0).mono ?_
  rintro e w1 ⟨As0, cs0, rfl, hos0, hbs0⟩
  have z1 := hbs0.size
  have B1 := B0.trans (Below.mono hbs0 B0.size)
  have rs0 := FrI.of_own hos0 h0.2
  go_wp2_with fail
  refine (toInt64S_calls _ _ _ _ _ (RdI.below h1 B1 (Nat.le_refl _)) hn1).mono ?_
  rintro e w2 ⟨As1, cs1, rfl, hos1, hbs1⟩
  have z2 := hbs1.size
  have B2 := B1.trans (Below.mono hbs1 B1.size)
  have rs0 := FrI.below rs0 hbs1 (by omega)
  have rs1 := FrI.of_own hos1 h1.2
  go_wp2_with fail
  refine (specFillGaps_calls _ _ _ _ _ _ _ _ _ rs0.rd rs1.rd hn0 hn1).mono ?_
  rintro e w3 ⟨Aw0, nw0, cw0, rfl, rw0, Nw0, hbw⟩
  have z3 := hbw.size
  have B3 := B2.trans (Below.mono hbw B2.size)
  have rs0 := FrI.below rs0 hbw (by omega)
  have rs1 := FrI.below rs1 hbw (by omega)
  go_wp2_with fail
  refine (toInt64S_calls _ _ _ _ _ (RdI.below h0 B3 (Nat.le_refl _)) hn0).mono ?_
  rintro e w4 ⟨Ai0, ci0, rfl, hoi0, hbi0⟩
  have z4 := hbi0.size
  have B4 := B3.trans (Below.mono hbi0 B3.size)
  have rw0 := FrI.below rw0 hbi0 (by omega)
  have ri0 := FrI.of_own hoi0 h0.2
  go_wp2_with fail
  refine (toInt64S_calls _ _ _ _ _ (RdI.below h1 B4 (Nat.le_refl _)) hn1).mono ?_
  rintro e w5 ⟨Ai1, ci1, rfl, hoi1, hbi1⟩
  have z5 := hbi1.size
  have B5 := B4.trans (Below.mono hbi1 B4.size)
  have rw0 := FrI.below rw0 hbi1 (by omega)
  have ri0 := FrI.below ri0 hbi1 (by omega)
  have ri1 := FrI.of_own hoi1 h1.2
  go_wp2_with fail
  refine (implFillGaps_calls _ _ _ _ _ _ _ _ _ ri0.rd ri1.rd hn0 hn1).mono ?_
  rintro e w6 ⟨Ag0, ng0, cg0, rfl, rg0, Ng0, hbg⟩
  have z6 := hbg.size
  have B6 := B5.trans (Below.mono hbg B5.size)
  have rw0 := FrI.below rw0 hbg (by omega)
  have ri0 := FrI.below ri0 hbg (by omega)
  have ri1 := FrI.below ri1 hbg (by omega)
  go_wp2_with fail
  refine (eqInt64S_calls _ _ _ _ _ _ _ _ _ rg0.rd rw0.rd Ng0 Nw0).mono ?_
  rintro e w7 ⟨rfl, hqp0⟩
  have hbp0 := below_of_draws hqp0
  clear hqp0
  have z7 := hbp0.size
  have B7 := B6.trans (Below.mono hbp0 B6.size)
  have rw0 := FrI.below rw0 hbp0 (by omega)
  have ri0 := FrI.below ri0 hbp0 (by omega)
  have ri1 := FrI.below ri1 hbp0 (by omega)
  have rg0 := FrI.below rg0 hbp0 (by omega)
  go_wp2_with fail
  refine (toInt64S_calls _ _ _ _ _ (RdI.below h0 B7 (Nat.le_refl _)) hn0).mono ?_
  rintro e w8 ⟨Ae0, ce0, rfl, hoe0, hbe0⟩
  have z8 := hbe0.size
  have B8 := B7.trans (Below.mono hbe0 B7.size)
  have rw0 := FrI.below rw0 hbe0 (by omega)
  have ri0 := FrI.below ri0 hbe0 (by omega)
  have ri1 := FrI.below ri1 hbe0 (by omega)
  have rg0 := FrI.below rg0 hbe0 (by omega)
  have re0 := FrI.of_own hoe0 h0.2
  go_wp2_with fail
  refine (eqInt64S_calls _ _ _ _ _ _ _ _ _ ri0.rd re0.rd hn0 hn0).mono ?_
  rintro e w9 ⟨rfl, hqq0⟩
  have hbq0 := below_of_draws hqq0
  clear hqq0
  have z9 := hbq0.size
  have B9 := B8.trans (Below.mono hbq0 B8.size)
  have rw0 := FrI.below rw0 hbq0 (by omega)
  have ri0 := FrI.below ri0 hbq0 (by omega)
  have ri1 := FrI.below ri1 hbq0 (by omega)
  have rg0 := FrI.below rg0 hbq0 (by omega)
  have re0 := FrI.below re0 hbq0 (by omega)
  go_wp2_with fail
  refine (toInt64S_calls _ _ _ _ _ (RdI.below h1 B9 (Nat.le_refl _)) hn1).mono ?_
  rintro e w10 ⟨Ae1, ce1, rfl, hoe1, hbe1⟩
  have z10 := hbe1.size
  have B10 := B9.trans (Below.mono hbe1 B9.size)
  have rw0 := FrI.below rw0 hbe1 (by omega)
  have ri0 := FrI.below ri0 hbe1 (by omega)
  have ri1 := FrI.below ri1 hbe1 (by omega)
  have rg0 := FrI.below rg0 hbe1 (by omega)
  have re1 := FrI.of_own hoe1 h1.2
  go_wp2_with fail
  refine (eqInt64S_calls _ _ _ _ _ _ _ _ _ ri1.rd re1.rd hn1 hn1).mono ?_
  rintro e w11 ⟨rfl, hqq1⟩
  have hbq1 := below_of_draws hqq1
  clear hqq1
  have z11 := hbq1.size
  have B11 := B10.trans (Below.mono hbq1 B10.size)
  have rw0 := FrI.below rw0 hbq1 (by omega)
  have ri0 := FrI.below ri0 hbq1 (by omega)
  have ri1 := FrI.below ri1 hbq1 (by omega)
  have rg0 := FrI.below rg0 hbq1 (by omega)
  have re1 := FrI.below re1 hbq1 (by omega)
  go_wp2_with fail
  refine (markInt64S_calls _ _ _ _ _ _ _ _ ri0 hn0 (by omega) (by omega)).mono ?_
  rintro e w12 ⟨rfl, rk0, wk0, zk0⟩
  have z12 := wk0.size
  have B12 := Wr.below B11 wk0 (by omega) B11.size
  have rw0 := FrI.wr rw0 wk0 (by omega)
  have ri1 := FrI.wr ri1 wk0 (by omega)
  have rg0 := FrI.wr rg0 wk0 (by omega)
  clear ri0 zk0
  go_wp2_with fail
  refine (markInt64S_calls _ _ _ _ _ _ _ _ ri1 hn1 (by omega) (by omega)).mono ?_
  rintro e w13 ⟨rfl, rk1, wk1, zk1⟩
  have z13 := wk1.size
  have B13 := Wr.below B12 wk1 (by omega) B12.size
  have rw0 := FrI.wr rw0 wk1 (by omega)
  have rg0 := FrI.wr rg0 wk1 (by omega)
  clear ri1 zk1
  go_wp2_with fail
  refine (eqInt64S_calls _ _ _ _ _ _ _ _ _ rg0.rd rw0.rd Ng0 Nw0).mono ?_
  rintro e w14 ⟨rfl, hqr0⟩
  have hbr0 := below_of_draws hqr0
  clear hqr0
  have z14 := hbr0.size
  have B14 := B13.trans (Below.mono hbr0 B13.size)
  have rw0 := FrI.below rw0 hbr0 (by omega)
  have rg0 := FrI.below rg0 hbr0 (by omega)
  go_wp2_with fail
  refine (markInt64S_calls _ _ _ _ _ _ _ _ rg0 Ng0 (by omega) (by omega)).mono ?_
  rintro e w15 ⟨rfl, rm0, wm0, zm0⟩
  have z15 := wm0.size
  have B15 := Wr.below B14 wm0 (by omega) B14.size
  have rw0 := FrI.wr rw0 wm0 (by omega)
  clear rg0 zm0
  go_wp2_with fail
  refine (heldInt64S_calls _ _ _ _ _ rm0.rd Ng0 (by omega) (by omega)).mono ?_
  rintro e w16 ⟨rfl, rfl⟩
  go_wp2_with fail
  refine (toInt64S_calls _ _ _ _ _ (RdI.below h0 B15 (Nat.le_refl _)) hn0).mono ?_
  rintro e w16 ⟨Aj0, cj0, rfl, hoj0, hbj0⟩
  have z16 := hbj0.size
  have B16 := B15.trans (Below.mono hbj0 B15.size)
  have rw0 := FrI.below rw0 hbj0 (by omega)
  have rm0 := FrI.below rm0 hbj0 (by omega)
  have rj0 := FrI.of_own hoj0 h0.2
  go_wp2_with fail
  refine (toInt64S_calls _ _ _ _ _ (RdI.below h1 B16 (Nat.le_refl _)) hn1).mono ?_
  rintro e w17 ⟨Aj1, cj1, rfl, hoj1, hbj1⟩
  have z17 := hbj1.size
  have B17 := B16.trans (Below.mono hbj1 B16.size)
  have rw0 := FrI.below rw0 hbj1 (by omega)
  have rm0 := FrI.below rm0 hbj1 (by omega)
  have rj0 := FrI.below rj0 hbj1 (by omega)
  have rj1 := FrI.of_own hoj1 h1.2
  go_wp2_with fail
  refine (implFillGaps_calls _ _ _ _ _ _ _ _ _ rj0.rd rj1.rd hn0 hn1).mono ?_
  rintro e w18 ⟨Ah0, nh0, ch0, rfl, rh0, Nh0, hbh⟩
  have z18 := hbh.size
  have B18 := B17.trans (Below.mono hbh B17.size)
  have rw0 := FrI.below rw0 hbh (by omega)
  have rm0 := FrI.below rm0 hbh (by omega)
  have rj0 := FrI.below rj0 hbh (by omega)
  have rj1 := FrI.below rj1 hbh (by omega)
  go_wp2_with fail
  refine (eqInt64S_calls _ _ _ _ _ _ _ _ _ rh0.rd rw0.rd Nh0 Nw0).mono ?_
  rintro e w19 ⟨rfl, hqv0⟩
  have hbv0 := below_of_draws hqv0
  clear hqv0
  have z19 := hbv0.size
  have B19 := B18.trans (Below.mono hbv0 B18.size)
  have rw0 := FrI.below rw0 hbv0 (by omega)
  have rm0 := FrI.below rm0 hbv0 (by omega)
  have rh0 := FrI.below rh0 hbv0 (by omega)
  go_wp2_with fail
  refine (heldInt64S_calls _ _ _ _ _ rm0.rd Ng0 (by omega) (by omega)).mono ?_
  rintro e w20 ⟨rfl, rfl⟩
  go_wp2
  go_ret
  exact ⟨rfl, B19⟩

end Go.Proofs.Ytmhmfoeibgdjcaa

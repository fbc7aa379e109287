/- The law FnExactSameSigns returns true for all arguments: its walk. -/
import Derived.Test.YtmhmfoeibgdjcaaSigns
import Derived.Test.YtmhmfoeibgdjcaaHelpI
namespace Go.Proofs.Ytmhmfoeibgdjcaa
open Go.RowKit
set_option linter.unusedVariables false

set_option maxHeartbeats 2000000 in
theorem law_SameSigns (A0 : Option Addr) (n0 c0 : Nat) (x0 : List Int) (A1 : Option Addr) (n1 c1 : Nat) (x1 : List Int) (w : World) (h0 : RdI w A0 n0 x0) (h1 : RdI w A1 n1 x1) :
    Calls Try.prog 3 #[.slice A0 n0 c0, .slice A1 n1 c1] w fun e w' => e = .returned (.bool true) ∧ Below w.heap.size w w' := by
  by_cases hn0 : n0 ≤ 1048576
  case neg =>
    have hn' : decide ((1048576 : Int) < n0) = true := by simp; omega
    go_enter Try.func3, Try.ntmps3
    go_wp2
    go_ret
    exact ⟨rfl, Below.refl _ _⟩
  have hd0 : decide ((1048576 : Int) < n0) = false := by simp; omega
  by_cases hn1 : n1 ≤ 1048576
  case neg =>
    have hn' : decide ((1048576 : Int) < n1) = true := by simp; omega
    go_enter Try.func3, Try.ntmps3
    go_wp2
    go_ret
    exact ⟨rfl, Below.refl _ _⟩
  have hd1 : decide ((1048576 : Int) < n1) = false := by simp; omega
  have B0 := Below.refl w.heap.size w
  go_enter Try.func3, Try.ntmps3
  go_wp2_with fail
  refine (toInt64S_calls _ _ _ _ _ (RdI.below h0 B0 (Nat.le_refl _)) hn0).mono ?_
  rintro e w1 ⟨As0, cs0, rfl, hos0, hbs0⟩
  have B1 := B0.trans (Below.mono hbs0 B0.size)
  have rs0 := RdI.of_own hos0 h0.2
  go_wp2_with fail
  refine (toInt64S_calls _ _ _ _ _ (RdI.below h1 B1 (Nat.le_refl _)) hn1).mono ?_
  rintro e w2 ⟨As1, cs1, rfl, hos1, hbs1⟩
  have B2 := B1.trans (Below.mono hbs1 B1.size)
  have rs0 := RdI.below rs0 hbs1 (Nat.le_refl _)
  have rs1 := RdI.of_own hos1 h1.2
  go_wp2_with fail
  refine (specSameSigns_calls _ _ _ _ _ _ _ _ _ rs0 rs1 hn0 hn1).mono ?_
  rintro e w3 ⟨rfl, hqS⟩
  have hbS := below_of_draws hqS
  clear hqS
  have B3 := B2.trans (Below.mono hbS B2.size)
  have rs0 := RdI.below rs0 hbS (Nat.le_refl _)
  have rs1 := RdI.below rs1 hbS (Nat.le_refl _)
  go_wp2_with fail
  refine (toInt64S_calls _ _ _ _ _ (RdI.below h0 B3 (Nat.le_refl _)) hn0).mono ?_
  rintro e w4 ⟨Ai0, ci0, rfl, hoi0, hbi0⟩
  have B4 := B3.trans (Below.mono hbi0 B3.size)
  have rs0 := RdI.below rs0 hbi0 (Nat.le_refl _)
  have rs1 := RdI.below rs1 hbi0 (Nat.le_refl _)
  have ri0 := RdI.of_own hoi0 h0.2
  go_wp2_with fail
  refine (toInt64S_calls _ _ _ _ _ (RdI.below h1 B4 (Nat.le_refl _)) hn1).mono ?_
  rintro e w5 ⟨Ai1, ci1, rfl, hoi1, hbi1⟩
  have B5 := B4.trans (Below.mono hbi1 B4.size)
  have rs0 := RdI.below rs0 hbi1 (Nat.le_refl _)
  have rs1 := RdI.below rs1 hbi1 (Nat.le_refl _)
  have ri0 := RdI.below ri0 hbi1 (Nat.le_refl _)
  have ri1 := RdI.of_own hoi1 h1.2
  go_wp2_with fail
  refine (implSameSigns_calls _ _ _ _ _ _ _ _ _ ri0 ri1 hn0 hn1).mono ?_
  rintro e w6 ⟨rfl, hqI⟩
  have hbI := below_of_draws hqI
  clear hqI
  have B6 := B5.trans (Below.mono hbI B5.size)
  have rs0 := RdI.below rs0 hbI (Nat.le_refl _)
  have rs1 := RdI.below rs1 hbI (Nat.le_refl _)
  have ri0 := RdI.below ri0 hbI (Nat.le_refl _)
  have ri1 := RdI.below ri1 hbI (Nat.le_refl _)
  go_wp2_with fail
  refine (toInt64S_calls _ _ _ _ _ (RdI.below h0 B6 (Nat.le_refl _)) hn0).mono ?_
  rintro e w7 ⟨Ae0, ce0, rfl, hoe0, hbe0⟩
  have B7 := B6.trans (Below.mono hbe0 B6.size)
  have rs0 := RdI.below rs0 hbe0 (Nat.le_refl _)
  have rs1 := RdI.below rs1 hbe0 (Nat.le_refl _)
  have ri0 := RdI.below ri0 hbe0 (Nat.le_refl _)
  have ri1 := RdI.below ri1 hbe0 (Nat.le_refl _)
  have re0 := RdI.of_own hoe0 h0.2
  go_wp2_with fail
  refine (eqInt64S_calls _ _ _ _ _ _ _ _ _ ri0 re0 hn0 hn0).mono ?_
  rintro e w8 ⟨rfl, hqe0⟩
  have hbe0' := below_of_draws hqe0
  clear hqe0
  have B8 := B7.trans (Below.mono hbe0' B7.size)
  have rs0 := RdI.below rs0 hbe0' (Nat.le_refl _)
  have rs1 := RdI.below rs1 hbe0' (Nat.le_refl _)
  have ri0 := RdI.below ri0 hbe0' (Nat.le_refl _)
  have ri1 := RdI.below ri1 hbe0' (Nat.le_refl _)
  have re0 := RdI.below re0 hbe0' (Nat.le_refl _)
  go_wp2_with fail
  refine (toInt64S_calls _ _ _ _ _ (RdI.below h1 B8 (Nat.le_refl _)) hn1).mono ?_
  rintro e w9 ⟨Ae1, ce1, rfl, hoe1, hbe1⟩
  have B9 := B8.trans (Below.mono hbe1 B8.size)
  have rs0 := RdI.below rs0 hbe1 (Nat.le_refl _)
  have rs1 := RdI.below rs1 hbe1 (Nat.le_refl _)
  have ri0 := RdI.below ri0 hbe1 (Nat.le_refl _)
  have ri1 := RdI.below ri1 hbe1 (Nat.le_refl _)
  have re0 := RdI.below re0 hbe1 (Nat.le_refl _)
  have re1 := RdI.of_own hoe1 h1.2
  go_wp2_with fail
  refine (eqInt64S_calls _ _ _ _ _ _ _ _ _ ri1 re1 hn1 hn1).mono ?_
  rintro e w10 ⟨rfl, hqe1⟩
  have hbe1' := below_of_draws hqe1
  clear hqe1
  have B10 := B9.trans (Below.mono hbe1' B9.size)
  have rs0 := RdI.below rs0 hbe1' (Nat.le_refl _)
  have rs1 := RdI.below rs1 hbe1' (Nat.le_refl _)
  have ri0 := RdI.below ri0 hbe1' (Nat.le_refl _)
  have ri1 := RdI.below ri1 hbe1' (Nat.le_refl _)
  have re0 := RdI.below re0 hbe1' (Nat.le_refl _)
  have re1 := RdI.below re1 hbe1' (Nat.le_refl _)
  go_wp2
  go_ret
  exact ⟨rfl, B10⟩

end Go.Proofs.Ytmhmfoeibgdjcaa

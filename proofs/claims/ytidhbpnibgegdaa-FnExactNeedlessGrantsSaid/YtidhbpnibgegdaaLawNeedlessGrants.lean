/- The law FnExactNeedlessGrants returns true for all arguments: its walk. -/
import Derived.Test.YtidhbpnibgegdaaNeedI
import Derived.Test.YtidhbpnibgegdaaMarkI
namespace Go.Proofs.Ytidhbpnibgegdaa
open Go.RowKit
set_option linter.unusedVariables false

set_option maxRecDepth 100000 in
set_option maxHeartbeats 4000000 in
theorem law_NeedlessGrants (A0 : Option Addr) (n0 c0 : Nat) (x0 : List RoleZ) (A1 : Option Addr) (n1 c1 : Nat) (x1 : List GrantZ) (w : World) (h0 : RdRz w A0 n0 x0) (N0 : n0 ≤ 9223372036854775807) (h1 : RdK kGrant w A1 n1 x1) (N1 : n1 ≤ 9223372036854775807) :
    Calls Try.prog 12 #[.slice A0 n0 c0, .slice A1 n1 c1] w fun e w' => e = .returned (.bool true) ∧ Below w.heap.size w w' := by
  have B0 := Below.refl w.heap.size w
  have z0 : w.heap.size ≤ w.heap.size := Nat.le_refl _
  go_enter Try.func12, Try.ntmps12
  go_wp2_with fail
  refine (szRoleSz_calls _ _ _ _ _ _ (RdRz.below h0 B0 (Nat.le_refl _)) (by omega) (by omega) N0).mono ?_
  rintro e w1 ⟨r0, rfl, ra0, rb0, rc0, hz0⟩
  have z1 := hz0.size
  have B1 := B0.trans (Below.mono hz0 B0.size)
  by_cases hneg0 : r0 < 0
  case pos =>
    go_wp2
    go_ret
    exact ⟨rfl, B1⟩
  obtain ⟨hl0, F0⟩ := rc0 (by omega)
  have hn0 : n0 ≤ 1048576 := by omega
  have HF0 := hide F0
  have hx0 : ShortR x0 := fun v hv => by have := (F0 v hv).2; omega
  clear F0 rc0
  go_wp2_with fail
  refine (szGrantS_calls _ _ _ _ _ _ (RdK.below h1 B1 (Nat.le_refl _)) (by omega) (by omega) N1).mono ?_
  rintro e w2 ⟨r1, rfl, ra1, rb1, rc1, hz1⟩
  have z2 := hz1.size
  have B2 := B1.trans (Below.mono hz1 B1.size)
  by_cases hneg1 : r1 < 0
  case pos =>
    go_wp2
    go_ret
    exact ⟨rfl, B2⟩
  obtain ⟨hl1, F1⟩ := rc1 (by omega)
  have hn1 : n1 ≤ 1048576 := by omega
  have HF1 := hide F1
  clear F1 rc1
  go_wp2_with fail
  refine (toRoleSz_calls _ _ _ _ _ (RdRz.below h0 B2 (Nat.le_refl _)) hn0 hx0).mono ?_
  rintro e w3 ⟨As0, cs0, rfl, hos0, hbs0⟩
  have z3 := hbs0.size
  have B3 := B2.trans (Below.mono hbs0 B2.size)
  have rs0 := hos0
  go_wp2_with fail
  refine (toGrantS_calls _ _ _ _ _ (RdK.below h1 B3 (Nat.le_refl _)) hn1).mono ?_
  rintro e w4 ⟨As1, cs1, rfl, hos1, hbs1⟩
  have z4 := hbs1.size
  have B4 := B3.trans (Below.mono hbs1 B3.size)
  have rs0 := FrRz.below rs0 hbs1 (by omega)
  have ccs1 := own_cap hos1
  have rs1 := FrK.of_own (K := kGrant) hos1 h1.2.1 h1.2.2
  go_wp2_with fail
  refine (specNeedlessGrants_calls _ _ _ _ _ _ _ _ _ rs0.rd rs1.rd hn0 hn1 hx0 ccs1).mono ?_
  rintro e w5 ⟨Aw0, nw0, cw0, rfl, rw0, Nw0, hbw⟩
  have z5 := hbw.size
  have B5 := B4.trans (Below.mono hbw B4.size)
  have rs0 := FrRz.below rs0 hbw (by omega)
  have rs1 := FrK.below rs1 hbw (by omega)
  go_wp2_with fail
  refine (toRoleSz_calls _ _ _ _ _ (RdRz.below h0 B5 (Nat.le_refl _)) hn0 hx0).mono ?_
  rintro e w6 ⟨Ai0, ci0, rfl, hoi0, hbi0⟩
  have z6 := hbi0.size
  have B6 := B5.trans (Below.mono hbi0 B5.size)
  have rw0 := FrI.below rw0 hbi0 (by omega)
  have ri0 := hoi0
  go_wp2_with fail
  refine (toGrantS_calls _ _ _ _ _ (RdK.below h1 B6 (Nat.le_refl _)) hn1).mono ?_
  rintro e w7 ⟨Ai1, ci1, rfl, hoi1, hbi1⟩
  have z7 := hbi1.size
  have B7 := B6.trans (Below.mono hbi1 B6.size)
  have rw0 := FrI.below rw0 hbi1 (by omega)
  have ri0 := FrRz.below ri0 hbi1 (by omega)
  have cci1 := own_cap hoi1
  have ri1 := FrK.of_own (K := kGrant) hoi1 h1.2.1 h1.2.2
  go_wp2_with fail
  refine (implNeedlessGrants_calls _ _ _ _ _ _ _ _ _ ri0.rd ri1.rd hn0 hn1 hx0 cci1).mono ?_
  rintro e w8 ⟨Ag0, ng0, cg0, rfl, rg0, Ng0, hbg⟩
  have z8 := hbg.size
  have B8 := B7.trans (Below.mono hbg B7.size)
  have rw0 := FrI.below rw0 hbg (by omega)
  have ri0 := FrRz.below ri0 hbg (by omega)
  have ri1 := FrK.below ri1 hbg (by omega)
  go_wp2_with fail
  refine (eqInt64S_calls _ _ _ _ _ _ _ _ _ rg0.rd rw0.rd Ng0 Nw0).mono ?_
  rintro e w9 ⟨rfl, hqp0⟩
  have hbp0 := below_of_draws hqp0
  clear hqp0
  have z9 := hbp0.size
  have B9 := B8.trans (Below.mono hbp0 B8.size)
  have rw0 := FrI.below rw0 hbp0 (by omega)
  have ri0 := FrRz.below ri0 hbp0 (by omega)
  have ri1 := FrK.below ri1 hbp0 (by omega)
  have rg0 := FrI.below rg0 hbp0 (by omega)
  go_wp2_with fail
  refine (toRoleSz_calls _ _ _ _ _ (RdRz.below h0 B9 (Nat.le_refl _)) hn0 hx0).mono ?_
  rintro e w10 ⟨Ae0, ce0, rfl, hoe0, hbe0⟩
  have z10 := hbe0.size
  have B10 := B9.trans (Below.mono hbe0 B9.size)
  have rw0 := FrI.below rw0 hbe0 (by omega)
  have ri0 := FrRz.below ri0 hbe0 (by omega)
  have ri1 := FrK.below ri1 hbe0 (by omega)
  have rg0 := FrI.below rg0 hbe0 (by omega)
  have re0 := hoe0
  go_wp2_with fail
  refine (eqRoleSz_calls _ _ _ _ _ _ _ _ _ ri0.rd re0.rd hn0 hn0 hx0 hx0).mono ?_
  rintro e w11 ⟨rfl, hqq0⟩
  have hbq0 := hqq0
  clear hqq0
  have z11 := hbq0.size
  have B11 := B10.trans (Below.mono hbq0 B10.size)
  have rw0 := FrI.below rw0 hbq0 (by omega)
  have ri0 := FrRz.below ri0 hbq0 (by omega)
  have ri1 := FrK.below ri1 hbq0 (by omega)
  have rg0 := FrI.below rg0 hbq0 (by omega)
  have re0 := FrRz.below re0 hbq0 (by omega)
  go_wp2_with fail
  refine (toGrantS_calls _ _ _ _ _ (RdK.below h1 B11 (Nat.le_refl _)) hn1).mono ?_
  rintro e w12 ⟨Ae1, ce1, rfl, hoe1, hbe1⟩
  have z12 := hbe1.size
  have B12 := B11.trans (Below.mono hbe1 B11.size)
  have rw0 := FrI.below rw0 hbe1 (by omega)
  have ri0 := FrRz.below ri0 hbe1 (by omega)
  have ri1 := FrK.below ri1 hbe1 (by omega)
  have rg0 := FrI.below rg0 hbe1 (by omega)
  have cce1 := own_cap hoe1
  have re1 := FrK.of_own (K := kGrant) hoe1 h1.2.1 h1.2.2
  go_wp2_with fail
  refine (eqGrantS_calls _ _ _ _ _ _ _ _ _ ri1.rd re1.rd hn1 hn1).mono ?_
  rintro e w13 ⟨rfl, hqq1⟩
  have hbq1 := hqq1
  clear hqq1
  have z13 := hbq1.size
  have B13 := B12.trans (Below.mono hbq1 B12.size)
  have rw0 := FrI.below rw0 hbq1 (by omega)
  have ri0 := FrRz.below ri0 hbq1 (by omega)
  have ri1 := FrK.below ri1 hbq1 (by omega)
  have rg0 := FrI.below rg0 hbq1 (by omega)
  have re1 := FrK.below re1 hbq1 (by omega)
  go_wp2_with fail
  refine (markRoleSz_calls _ _ _ _ _ _ _ _ ri0 hn0 hx0 (by omega) (by omega) (by omega)).mono ?_
  rintro e w14 ⟨kv0, rfl, kl0, kh0, wk0⟩
  have z14 := wk0.size
  have B14 := Wr.below B13 wk0 (by omega) B13.size
  have rw0 := FrI.wr rw0 wk0 (by omega)
  have ri1 := FrK.wr ri1 wk0 (by omega)
  have rg0 := FrI.wr rg0 wk0 (by omega)
  clear ri0
  go_wp2_with fail
  refine (markGrantS_calls _ _ _ _ _ _ _ _ ri1 hn1 (by omega) (by omega) (by omega)).mono ?_
  rintro e w15 ⟨rfl, rk1, wk1, zk1⟩
  have z15 := wk1.size
  have B15 := Wr.below B14 wk1 (by omega) B14.size
  have rw0 := FrI.wr rw0 wk1 (by omega)
  have rg0 := FrI.wr rg0 wk1 (by omega)
  clear ri1 zk1
  go_wp2_with fail
  refine (eqInt64S_calls _ _ _ _ _ _ _ _ _ rg0.rd rw0.rd Ng0 Nw0).mono ?_
  rintro e w16 ⟨rfl, hqr0⟩
  have hbr0 := below_of_draws hqr0
  clear hqr0
  have z16 := hbr0.size
  have B16 := B15.trans (Below.mono hbr0 B15.size)
  have rw0 := FrI.below rw0 hbr0 (by omega)
  have rg0 := FrI.below rg0 hbr0 (by omega)
  go_wp2_with fail
  refine (markInt64S_calls _ _ _ _ _ _ _ _ rg0 Ng0 (by omega) (by omega)).mono ?_
  rintro e w17 ⟨rfl, rm0, wm0, zm0⟩
  have z17 := wm0.size
  have B17 := Wr.below B16 wm0 (by omega) B16.size
  have rw0 := FrI.wr rw0 wm0 (by omega)
  clear rg0 zm0
  go_wp2_with fail
  refine (heldInt64S_calls _ _ _ _ _ rm0.rd Ng0 (by omega) (by omega)).mono ?_
  rintro e w18 ⟨rfl, rfl⟩
  go_wp2_with fail
  refine (toRoleSz_calls _ _ _ _ _ (RdRz.below h0 B17 (Nat.le_refl _)) hn0 hx0).mono ?_
  rintro e w18 ⟨Aj0, cj0, rfl, hoj0, hbj0⟩
  have z18 := hbj0.size
  have B18 := B17.trans (Below.mono hbj0 B17.size)
  have rw0 := FrI.below rw0 hbj0 (by omega)
  have rm0 := FrI.below rm0 hbj0 (by omega)
  have rj0 := hoj0
  go_wp2_with fail
  refine (toGrantS_calls _ _ _ _ _ (RdK.below h1 B18 (Nat.le_refl _)) hn1).mono ?_
  rintro e w19 ⟨Aj1, cj1, rfl, hoj1, hbj1⟩
  have z19 := hbj1.size
  have B19 := B18.trans (Below.mono hbj1 B18.size)
  have rw0 := FrI.below rw0 hbj1 (by omega)
  have rm0 := FrI.below rm0 hbj1 (by omega)
  have rj0 := FrRz.below rj0 hbj1 (by omega)
  have ccj1 := own_cap hoj1
  have rj1 := FrK.of_own (K := kGrant) hoj1 h1.2.1 h1.2.2
  go_wp2_with fail
  refine (implNeedlessGrants_calls _ _ _ _ _ _ _ _ _ rj0.rd rj1.rd hn0 hn1 hx0 ccj1).mono ?_
  rintro e w20 ⟨Ah0, nh0, ch0, rfl, rh0, Nh0, hbh⟩
  have z20 := hbh.size
  have B20 := B19.trans (Below.mono hbh B19.size)
  have rw0 := FrI.below rw0 hbh (by omega)
  have rm0 := FrI.below rm0 hbh (by omega)
  have rj0 := FrRz.below rj0 hbh (by omega)
  have rj1 := FrK.below rj1 hbh (by omega)
  go_wp2_with fail
  refine (eqInt64S_calls _ _ _ _ _ _ _ _ _ rh0.rd rw0.rd Nh0 Nw0).mono ?_
  rintro e w21 ⟨rfl, hqv0⟩
  have hbv0 := below_of_draws hqv0
  clear hqv0
  have z21 := hbv0.size
  have B21 := B20.trans (Below.mono hbv0 B20.size)
  have rw0 := FrI.below rw0 hbv0 (by omega)
  have rm0 := FrI.below rm0 hbv0 (by omega)
  have rh0 := FrI.below rh0 hbv0 (by omega)
  go_wp2_with fail
  refine (heldInt64S_calls _ _ _ _ _ rm0.rd Ng0 (by omega) (by omega)).mono ?_
  rintro e w22 ⟨rfl, rfl⟩
  go_wp2
  go_ret
  exact ⟨rfl, B21⟩

end Go.Proofs.Ytidhbpnibgegdaa

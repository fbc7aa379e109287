/- The law FnExactMergeStates returns true for all arguments: its walk. -/
import Derived.Test.YtmcdafaadodekaaConfl
import Derived.Test.YtmcdafaadodekaaStSetting
namespace Go.Proofs.Ytmcdafaadodekaa
open Go.RowKit
set_option linter.unusedVariables false

set_option maxHeartbeats 4000000 in
theorem law_MergeStates (A0 : Option Addr) (n0 c0 : Nat) (x0 : List SetZ) (A1 : Option Addr) (n1 c1 : Nat) (x1 : List SetZ) (A2 : Option Addr) (n2 c2 : Nat) (x2 : List SetZ) (w : World) (h0 : RdK kSetting w A0 n0 x0) (N0 : n0 ≤ 9223372036854775807) (h1 : RdK kSetting w A1 n1 x1) (N1 : n1 ≤ 9223372036854775807) (h2 : RdK kSetting w A2 n2 x2) (N2 : n2 ≤ 9223372036854775807) :
    Calls Try.prog 13 #[.slice A0 n0 c0, .slice A1 n1 c1, .slice A2 n2 c2] w fun e w' => e = .returned (.bool true) ∧ Below w.heap.size w w' := by
  have B0 := Below.refl w.heap.size w
  have z0 : w.heap.size ≤ w.heap.size := Nat.le_refl _
  go_enter Try.func13, Try.ntmps13
  go_wp2_with fail
  refine (szSettingS_calls _ _ _ _ _ _ (RdK.below h0 B0 (Nat.le_refl _)) (by omega) (by omega) N0).mono ?_
  rintro e w1 ⟨r0, rfl, ra0, rb0, rc0, hz0⟩
  have z1 := hz0.size
  have B1 := B0.trans (Below.mono hz0 B0.size)
  by_cases hneg0 : r0 < 0
  case pos =>
    go_wp2
    go_ret
    exact ⟨rfl, B1⟩
  obtain ⟨hl0, F0⟩ := rc0 (by omega)
  have hn0 : n0 ≤ 1048576 := by omega
  have HF0 := hide F0
  clear F0 rc0
  go_wp2_with fail
  refine (szSettingS_calls _ _ _ _ _ _ (RdK.below h1 B1 (Nat.le_refl _)) (by omega) (by omega) N1).mono ?_
  rintro e w2 ⟨r1, rfl, ra1, rb1, rc1, hz1⟩
  have z2 := hz1.size
  have B2 := B1.trans (Below.mono hz1 B1.size)
  by_cases hneg1 : r1 < 0
  case pos =>
    go_wp2
    go_ret
    exact ⟨rfl, B2⟩
  obtain ⟨hl1, F1⟩ := rc1 (by omega)
  have hn1 : n1 ≤ 1048576 := by omega
  have HF1 := hide F1
  clear F1 rc1
  go_wp2_with fail
  refine (szSettingS_calls _ _ _ _ _ _ (RdK.below h2 B2 (Nat.le_refl _)) (by omega) (by omega) N2).mono ?_
  rintro e w3 ⟨r2, rfl, ra2, rb2, rc2, hz2⟩
  have z3 := hz2.size
  have B3 := B2.trans (Below.mono hz2 B2.size)
  by_cases hneg2 : r2 < 0
  case pos =>
    go_wp2
    go_ret
    exact ⟨rfl, B3⟩
  obtain ⟨hl2, F2⟩ := rc2 (by omega)
  have hn2 : n2 ≤ 1048576 := by omega
  have HF2 := hide F2
  clear F2 rc2
  go_wp2_with fail
  refine (toSettingS_calls _ _ _ _ _ (RdK.below h0 B3 (Nat.le_refl _)) hn0).mono ?_
  rintro e w4 ⟨As0, cs0, rfl, hos0, hbs0⟩
  have z4 := hbs0.size
  have B4 := B3.trans (Below.mono hbs0 B3.size)
  have rs0 := FrK.of_own (K := kSetting) hos0 h0.2.1 h0.2.2
  go_wp2_with fail
  refine (toSettingS_calls _ _ _ _ _ (RdK.below h1 B4 (Nat.le_refl _)) hn1).mono ?_
  rintro e w5 ⟨As1, cs1, rfl, hos1, hbs1⟩
  have z5 := hbs1.size
  have B5 := B4.trans (Below.mono hbs1 B4.size)
  have rs0 := FrK.below rs0 hbs1 (by omega)
  have rs1 := FrK.of_own (K := kSetting) hos1 h1.2.1 h1.2.2
  go_wp2_with fail
  refine (toSettingS_calls _ _ _ _ _ (RdK.below h2 B5 (Nat.le_refl _)) hn2).mono ?_
  rintro e w6 ⟨As2, cs2, rfl, hos2, hbs2⟩
  have z6 := hbs2.size
  have B6 := B5.trans (Below.mono hbs2 B5.size)
  have rs0 := FrK.below rs0 hbs2 (by omega)
  have rs1 := FrK.below rs1 hbs2 (by omega)
  have rs2 := FrK.of_own (K := kSetting) hos2 h2.2.1 h2.2.2
  go_wp2_with fail
  refine (specMergeStates_calls _ _ _ _ _ _ _ _ _ _ _ _ _ rs0.rd rs1.rd rs2.rd hn0 hn1 hn2).mono ?_
  rintro e w7 ⟨Aw0, nw0, cw0, rfl, rw0, Nw0, hbw⟩
  have z7 := hbw.size
  have B7 := B6.trans (Below.mono hbw B6.size)
  have rs0 := FrK.below rs0 hbw (by omega)
  have rs1 := FrK.below rs1 hbw (by omega)
  have rs2 := FrK.below rs2 hbw (by omega)
  go_wp2_with fail
  refine (toSettingS_calls _ _ _ _ _ (RdK.below h0 B7 (Nat.le_refl _)) hn0).mono ?_
  rintro e w8 ⟨Ai0, ci0, rfl, hoi0, hbi0⟩
  have z8 := hbi0.size
  have B8 := B7.trans (Below.mono hbi0 B7.size)
  have rw0 := FrK.below rw0 hbi0 (by omega)
  have ri0 := FrK.of_own (K := kSetting) hoi0 h0.2.1 h0.2.2
  go_wp2_with fail
  refine (toSettingS_calls _ _ _ _ _ (RdK.below h1 B8 (Nat.le_refl _)) hn1).mono ?_
  rintro e w9 ⟨Ai1, ci1, rfl, hoi1, hbi1⟩
  have z9 := hbi1.size
  have B9 := B8.trans (Below.mono hbi1 B8.size)
  have rw0 := FrK.below rw0 hbi1 (by omega)
  have ri0 := FrK.below ri0 hbi1 (by omega)
  have ri1 := FrK.of_own (K := kSetting) hoi1 h1.2.1 h1.2.2
  go_wp2_with fail
  refine (toSettingS_calls _ _ _ _ _ (RdK.below h2 B9 (Nat.le_refl _)) hn2).mono ?_
  rintro e w10 ⟨Ai2, ci2, rfl, hoi2, hbi2⟩
  have z10 := hbi2.size
  have B10 := B9.trans (Below.mono hbi2 B9.size)
  have rw0 := FrK.below rw0 hbi2 (by omega)
  have ri0 := FrK.below ri0 hbi2 (by omega)
  have ri1 := FrK.below ri1 hbi2 (by omega)
  have ri2 := FrK.of_own (K := kSetting) hoi2 h2.2.1 h2.2.2
  go_wp2_with fail
  refine (implMergeStates_calls _ _ _ _ _ _ _ _ _ _ _ _ _ ri0.rd ri1.rd ri2.rd hn0 hn1 hn2).mono ?_
  rintro e w11 ⟨Ag0, ng0, cg0, rfl, rg0, Ng0, hbg⟩
  have z11 := hbg.size
  have B11 := B10.trans (Below.mono hbg B10.size)
  have rw0 := FrK.below rw0 hbg (by omega)
  have ri0 := FrK.below ri0 hbg (by omega)
  have ri1 := FrK.below ri1 hbg (by omega)
  have ri2 := FrK.below ri2 hbg (by omega)
  go_wp2_with fail
  refine (eqSettingS_calls _ _ _ _ _ _ _ _ _ rg0.rd rw0.rd Ng0 Nw0).mono ?_
  rintro e w12 ⟨rfl, hqp0⟩
  have hbp0 := hqp0
  clear hqp0
  have z12 := hbp0.size
  have B12 := B11.trans (Below.mono hbp0 B11.size)
  have rw0 := FrK.below rw0 hbp0 (by omega)
  have ri0 := FrK.below ri0 hbp0 (by omega)
  have ri1 := FrK.below ri1 hbp0 (by omega)
  have ri2 := FrK.below ri2 hbp0 (by omega)
  have rg0 := FrK.below rg0 hbp0 (by omega)
  go_wp2_with fail
  refine (toSettingS_calls _ _ _ _ _ (RdK.below h0 B12 (Nat.le_refl _)) hn0).mono ?_
  rintro e w13 ⟨Ae0, ce0, rfl, hoe0, hbe0⟩
  have z13 := hbe0.size
  have B13 := B12.trans (Below.mono hbe0 B12.size)
  have rw0 := FrK.below rw0 hbe0 (by omega)
  have ri0 := FrK.below ri0 hbe0 (by omega)
  have ri1 := FrK.below ri1 hbe0 (by omega)
  have ri2 := FrK.below ri2 hbe0 (by omega)
  have rg0 := FrK.below rg0 hbe0 (by omega)
  have re0 := FrK.of_own (K := kSetting) hoe0 h0.2.1 h0.2.2
  go_wp2_with fail
  refine (eqSettingS_calls _ _ _ _ _ _ _ _ _ ri0.rd re0.rd hn0 hn0).mono ?_
  rintro e w14 ⟨rfl, hqq0⟩
  have hbq0 := hqq0
  clear hqq0
  have z14 := hbq0.size
  have B14 := B13.trans (Below.mono hbq0 B13.size)
  have rw0 := FrK.below rw0 hbq0 (by omega)
  have ri0 := FrK.below ri0 hbq0 (by omega)
  have ri1 := FrK.below ri1 hbq0 (by omega)
  have ri2 := FrK.below ri2 hbq0 (by omega)
  have rg0 := FrK.below rg0 hbq0 (by omega)
  have re0 := FrK.below re0 hbq0 (by omega)
  go_wp2_with fail
  refine (toSettingS_calls _ _ _ _ _ (RdK.below h1 B14 (Nat.le_refl _)) hn1).mono ?_
  rintro e w15 ⟨Ae1, ce1, rfl, hoe1, hbe1⟩
  have z15 := hbe1.size
  have B15 := B14.trans (Below.mono hbe1 B14.size)
  have rw0 := FrK.below rw0 hbe1 (by omega)
  have ri0 := FrK.below ri0 hbe1 (by omega)
  have ri1 := FrK.below ri1 hbe1 (by omega)
  have ri2 := FrK.below ri2 hbe1 (by omega)
  have rg0 := FrK.below rg0 hbe1 (by omega)
  have re1 := FrK.of_own (K := kSetting) hoe1 h1.2.1 h1.2.2
  go_wp2_with fail
  refine (eqSettingS_calls _ _ _ _ _ _ _ _ _ ri1.rd re1.rd hn1 hn1).mono ?_
  rintro e w16 ⟨rfl, hqq1⟩
  have hbq1 := hqq1
  clear hqq1
  have z16 := hbq1.size
  have B16 := B15.trans (Below.mono hbq1 B15.size)
  have rw0 := FrK.below rw0 hbq1 (by omega)
  have ri0 := FrK.below ri0 hbq1 (by omega)
  have ri1 := FrK.below ri1 hbq1 (by omega)
  have ri2 := FrK.below ri2 hbq1 (by omega)
  have rg0 := FrK.below rg0 hbq1 (by omega)
  have re1 := FrK.below re1 hbq1 (by omega)
  go_wp2_with fail
  refine (toSettingS_calls _ _ _ _ _ (RdK.below h2 B16 (Nat.le_refl _)) hn2).mono ?_
  rintro e w17 ⟨Ae2, ce2, rfl, hoe2, hbe2⟩
  have z17 := hbe2.size
  have B17 := B16.trans (Below.mono hbe2 B16.size)
  have rw0 := FrK.below rw0 hbe2 (by omega)
  have ri0 := FrK.below ri0 hbe2 (by omega)
  have ri1 := FrK.below ri1 hbe2 (by omega)
  have ri2 := FrK.below ri2 hbe2 (by omega)
  have rg0 := FrK.below rg0 hbe2 (by omega)
  have re2 := FrK.of_own (K := kSetting) hoe2 h2.2.1 h2.2.2
  go_wp2_with fail
  refine (eqSettingS_calls _ _ _ _ _ _ _ _ _ ri2.rd re2.rd hn2 hn2).mono ?_
  rintro e w18 ⟨rfl, hqq2⟩
  have hbq2 := hqq2
  clear hqq2
  have z18 := hbq2.size
  have B18 := B17.trans (Below.mono hbq2 B17.size)
  have rw0 := FrK.below rw0 hbq2 (by omega)
  have ri0 := FrK.below ri0 hbq2 (by omega)
  have ri1 := FrK.below ri1 hbq2 (by omega)
  have ri2 := FrK.below ri2 hbq2 (by omega)
  have rg0 := FrK.below rg0 hbq2 (by omega)
  have re2 := FrK.below re2 hbq2 (by omega)
  go_wp2_with fail
  refine (markSettingS_calls _ _ _ _ _ _ _ _ ri0 hn0 (by omega) (by omega) (by omega)).mono ?_
  rintro e w19 ⟨rfl, rk0, wk0, zk0⟩
  have z19 := wk0.size
  have B19 := Wr.below B18 wk0 (by omega) B18.size
  have rw0 := FrK.wr rw0 wk0 (by omega)
  have ri1 := FrK.wr ri1 wk0 (by omega)
  have ri2 := FrK.wr ri2 wk0 (by omega)
  have rg0 := FrK.wr rg0 wk0 (by omega)
  clear ri0 zk0
  go_wp2_with fail
  refine (markSettingS_calls _ _ _ _ _ _ _ _ ri1 hn1 (by omega) (by omega) (by omega)).mono ?_
  rintro e w20 ⟨rfl, rk1, wk1, zk1⟩
  have z20 := wk1.size
  have B20 := Wr.below B19 wk1 (by omega) B19.size
  have rw0 := FrK.wr rw0 wk1 (by omega)
  have ri2 := FrK.wr ri2 wk1 (by omega)
  have rg0 := FrK.wr rg0 wk1 (by omega)
  clear ri1 zk1
  go_wp2_with fail
  refine (markSettingS_calls _ _ _ _ _ _ _ _ ri2 hn2 (by omega) (by omega) (by omega)).mono ?_
  rintro e w21 ⟨rfl, rk2, wk2, zk2⟩
  have z21 := wk2.size
  have B21 := Wr.below B20 wk2 (by omega) B20.size
  have rw0 := FrK.wr rw0 wk2 (by omega)
  have rg0 := FrK.wr rg0 wk2 (by omega)
  clear ri2 zk2
  go_wp2_with fail
  refine (eqSettingS_calls _ _ _ _ _ _ _ _ _ rg0.rd rw0.rd Ng0 Nw0).mono ?_
  rintro e w22 ⟨rfl, hqr0⟩
  have hbr0 := hqr0
  clear hqr0
  have z22 := hbr0.size
  have B22 := B21.trans (Below.mono hbr0 B21.size)
  have rw0 := FrK.below rw0 hbr0 (by omega)
  have rg0 := FrK.below rg0 hbr0 (by omega)
  go_wp2_with fail
  refine (markSettingS_calls _ _ _ _ _ _ _ _ rg0 Ng0 (by omega) (by omega) (by omega)).mono ?_
  rintro e w23 ⟨rfl, rm0, wm0, zm0⟩
  have z23 := wm0.size
  have B23 := Wr.below B22 wm0 (by omega) B22.size
  have rw0 := FrK.wr rw0 wm0 (by omega)
  clear rg0 zm0
  go_wp2_with fail
  refine (heldSettingS_calls _ _ _ _ _ rm0.rd Ng0 (by omega) (by omega)).mono ?_
  rintro e w24 ⟨rfl, hbu0⟩
  have z24 := hbu0.size
  have B24 := B23.trans (Below.mono hbu0 B23.size)
  have rw0 := FrK.below rw0 hbu0 (by omega)
  have rm0 := FrK.below rm0 hbu0 (by omega)
  go_wp2_with fail
  refine (toSettingS_calls _ _ _ _ _ (RdK.below h0 B24 (Nat.le_refl _)) hn0).mono ?_
  rintro e w25 ⟨Aj0, cj0, rfl, hoj0, hbj0⟩
  have z25 := hbj0.size
  have B25 := B24.trans (Below.mono hbj0 B24.size)
  have rw0 := FrK.below rw0 hbj0 (by omega)
  have rm0 := FrK.below rm0 hbj0 (by omega)
  have rj0 := FrK.of_own (K := kSetting) hoj0 h0.2.1 h0.2.2
  go_wp2_with fail
  refine (toSettingS_calls _ _ _ _ _ (RdK.below h1 B25 (Nat.le_refl _)) hn1).mono ?_
  rintro e w26 ⟨Aj1, cj1, rfl, hoj1, hbj1⟩
  have z26 := hbj1.size
  have B26 := B25.trans (Below.mono hbj1 B25.size)
  have rw0 := FrK.below rw0 hbj1 (by omega)
  have rm0 := FrK.below rm0 hbj1 (by omega)
  have rj0 := FrK.below rj0 hbj1 (by omega)
  have rj1 := FrK.of_own (K := kSetting) hoj1 h1.2.1 h1.2.2
  go_wp2_with fail
  refine (toSettingS_calls _ _ _ _ _ (RdK.below h2 B26 (Nat.le_refl _)) hn2).mono ?_
  rintro e w27 ⟨Aj2, cj2, rfl, hoj2, hbj2⟩
  have z27 := hbj2.size
  have B27 := B26.trans (Below.mono hbj2 B26.size)
  have rw0 := FrK.below rw0 hbj2 (by omega)
  have rm0 := FrK.below rm0 hbj2 (by omega)
  have rj0 := FrK.below rj0 hbj2 (by omega)
  have rj1 := FrK.below rj1 hbj2 (by omega)
  have rj2 := FrK.of_own (K := kSetting) hoj2 h2.2.1 h2.2.2
  go_wp2_with fail
  refine (implMergeStates_calls _ _ _ _ _ _ _ _ _ _ _ _ _ rj0.rd rj1.rd rj2.rd hn0 hn1 hn2).mono ?_
  rintro e w28 ⟨Ah0, nh0, ch0, rfl, rh0, Nh0, hbh⟩
  have z28 := hbh.size
  have B28 := B27.trans (Below.mono hbh B27.size)
  have rw0 := FrK.below rw0 hbh (by omega)
  have rm0 := FrK.below rm0 hbh (by omega)
  have rj0 := FrK.below rj0 hbh (by omega)
  have rj1 := FrK.below rj1 hbh (by omega)
  have rj2 := FrK.below rj2 hbh (by omega)
  go_wp2_with fail
  refine (eqSettingS_calls _ _ _ _ _ _ _ _ _ rh0.rd rw0.rd Nh0 Nw0).mono ?_
  rintro e w29 ⟨rfl, hqv0⟩
  have hbv0 := hqv0
  clear hqv0
  have z29 := hbv0.size
  have B29 := B28.trans (Below.mono hbv0 B28.size)
  have rw0 := FrK.below rw0 hbv0 (by omega)
  have rm0 := FrK.below rm0 hbv0 (by omega)
  have rh0 := FrK.below rh0 hbv0 (by omega)
  go_wp2_with fail
  refine (heldSettingS_calls _ _ _ _ _ rm0.rd Ng0 (by omega) (by omega)).mono ?_
  rintro e w30 ⟨rfl, hbx0⟩
  have z30 := hbx0.size
  have B30 := B29.trans (Below.mono hbx0 B29.size)
  have rw0 := FrK.below rw0 hbx0 (by omega)
  have rm0 := FrK.below rm0 hbx0 (by omega)
  have rh0 := FrK.below rh0 hbx0 (by omega)
  go_wp2
  go_ret
  exact ⟨rfl, B30⟩

end Go.Proofs.Ytmcdafaadodekaa

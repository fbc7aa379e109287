/- The law FnExactAddGrant returns true for all arguments: its walk. -/
import Derived.Test.YtidhbpnibgegdaaAddGS
namespace Go.Proofs.Ytidhbpnibgegdaa
open Go.RowKit
set_option linter.unusedVariables false

set_option maxRecDepth 100000 in
set_option maxHeartbeats 4000000 in
theorem law_AddGrant (A0 : Option Addr) (n0 c0 : Nat) (x0 : List RoleZ) (A1 : Option Addr) (n1 c1 : Nat) (x1 : List GrantZ) (x2 : GrantZ) (w : World) (h0 : RdRz w A0 n0 x0) (N0 : n0 ≤ 9223372036854775807) (h1 : RdK kGrant w A1 n1 x1) (N1 : n1 ≤ 9223372036854775807) (h2 : kGrant.fine x2) :
    Calls Try.prog 13 #[.slice A0 n0 c0, .slice A1 n1 c1, .agg #[.string x2.role, .string x2.object, .int .i64 x2.action]] w fun e w' => e = .returned (.bool true) ∧ Below w.heap.size w w' := by
  obtain ⟨W0, hW0⟩ : ∃ W0 : World, W0 = (w.alloc (.cells #[.string x2.role, .string x2.object, .int .i64 x2.action] 46)) := ⟨_, rfl⟩
  have B0 : Below w.heap.size w W0 := by rw [hW0]; exact ((Below.refl w.heap.size w).alloc (by first | exact Nat.le_refl _ | (simp; done) | (simp; omega)) _)
  have hbox2 : W0.cell? ⟨w.heap.size, 0, none⟩ = some (.string x2.role) ∧ W0.cell? ⟨w.heap.size, 1, none⟩ = some (.string x2.object) ∧ W0.cell? ⟨w.heap.size, 2, none⟩ = some (.int .i64 x2.action) := by rw [hW0]; simp
  have hlt2 : w.heap.size < W0.heap.size := by rw [hW0]; first | (simp; done) | (simp; omega)
  have HX2 := hide hbox2
  clear hbox2
  have z0 := B0.size
  have C0 := Below.refl W0.heap.size W0
  go_enter Try.func13, Try.ntmps13
  go_wp2_with fail
  rw [← hW0]
  clear hW0
  have KS : Hid (∀ W, Below W0.heap.size W0 W → W.cell? ⟨w.heap.size, 0, none⟩ = some (.string x2.role) ∧ W.cell? ⟨w.heap.size, 1, none⟩ = some (.string x2.object) ∧ W.cell? ⟨w.heap.size, 2, none⟩ = some (.int .i64 x2.action)) := fun W C => ⟨(C.cell hlt2).trans HX2.out.1, (C.cell hlt2).trans HX2.out.2.1, (C.cell hlt2).trans HX2.out.2.2⟩
  go_wp2_with fail
  refine (szRoleSz_calls _ _ _ _ _ _ (RdRz.below h0 B0 (Nat.le_refl _)) (by omega) (by omega) N0).mono ?_
  rintro e w1 ⟨r0, rfl, ra0, rb0, rc0, hz0⟩
  have z1 := hz0.size
  have B1 := B0.trans (Below.mono hz0 B0.size)
  have C1 := C0.trans (Below.mono hz0 C0.size)
  by_cases hneg0 : r0 < 0
  case pos =>
    go_wp2
    go_ret
    exact ⟨rfl, B1⟩
  obtain ⟨hl0, F0⟩ := rc0 (by omega)
  have hn0 : n0 ≤ 1048576 := by omega
  have HF0 := hide F0
  have hx0 : ShortR x0 := fun v hv => by have := (F0 v hv).2; omega
  clear F0 rc0
  go_wp2_with fail
  refine (szGrantS_calls _ _ _ _ _ _ (RdK.below h1 B1 (Nat.le_refl _)) (by omega) (by omega) N1).mono ?_
  rintro e w2 ⟨r1, rfl, ra1, rb1, rc1, hz1⟩
  have z2 := hz1.size
  have B2 := B1.trans (Below.mono hz1 B1.size)
  have C2 := C1.trans (Below.mono hz1 C1.size)
  by_cases hneg1 : r1 < 0
  case pos =>
    go_wp2
    go_ret
    exact ⟨rfl, B2⟩
  obtain ⟨hl1, F1⟩ := rc1 (by omega)
  have hn1 : n1 ≤ 1048576 := by omega
  have HF1 := hide F1
  clear F1 rc1
  obtain ⟨e2_0, e2_1, e2_2⟩ := HX2.out
  replace e2_0 := (C2.cell hlt2).trans e2_0
  replace e2_1 := (C2.cell hlt2).trans e2_1
  replace e2_2 := (C2.cell hlt2).trans e2_2
  go_wp2_with fail
  refine (szGrant_calls _ _ _ _ _ (by omega) (by omega) h2.1 h2.2.1).mono ?_
  rintro e w3 ⟨r2, rfl, ra2, rb2, rc2, hz2⟩
  clear e2_0 e2_1 e2_2
  have z3 := hz2.size
  have B3 := B2.trans (Below.mono hz2 B2.size)
  have C3 := C2.trans (Below.mono hz2 C2.size)
  by_cases hneg2 : r2 < 0
  case pos =>
    go_wp2
    go_ret
    exact ⟨rfl, B3⟩
  have HF2 := hide (rc2 (by omega))
  clear rc2
  go_wp2
  have hdr3 := (Below.refl w3.heap.size w3).drew
  have z4 := hdr3.size
  have B4 := B3.trans (Below.mono hdr3 B3.size)
  have C4 := C3.trans (Below.mono hdr3 C3.size)
  go_region_held3 (fun w' => w'.cell? ⟨w.heap.size, 0, none⟩ = some (.string x2.role) ∧ w'.cell? ⟨w.heap.size, 1, none⟩ = some (.string x2.object) ∧ w'.cell? ⟨w.heap.size, 2, none⟩ = some (.int .i64 x2.action))
    (first | exact KS.out _ C8 | exact KS.out _ C7 | exact KS.out _ C6 | exact KS.out _ C5 | exact KS.out _ C4)
    (first | (go_at_call 16; (with_reducible refine (toRoleSz_calls _ _ _ _ _ (RdRz.below h0 B4 (Nat.le_refl _)) hn0 hx0).mono ?_); rintro e w5 ⟨As0, cs0, rfl, hos0, hbs0⟩; have z5 := hbs0.size; have B5 := B4.trans (Below.mono hbs0 B4.size); have C5 := C4.trans (Below.mono hbs0 C4.size); have rs0 := hos0) | (go_at_call 27; (with_reducible refine (toGrantS_calls _ _ _ _ _ (RdK.below h1 B5 (Nat.le_refl _)) hn1).mono ?_); rintro e w6 ⟨As1, cs1, rfl, hos1, hbs1⟩; have z6 := hbs1.size; have B6 := B5.trans (Below.mono hbs1 B5.size); have C6 := C5.trans (Below.mono hbs1 C5.size); have rs0 := FrRz.below rs0 hbs1 (by omega); have ccs1 := own_cap hos1; have rs1 := FrK.of_own (K := kGrant) hos1 h1.2.1 h1.2.2) | (go_at_call 34; (with_reducible refine (toGrant_calls x2.role x2.object x2.action _).mono ?_); rintro e w7 ⟨rfl, hgw2⟩; have z7 := hgw2.size; have B7 := B6.trans (Below.mono hgw2 B6.size); have C7 := C6.trans (Below.mono hgw2 C6.size); have rs0 := FrRz.below rs0 hgw2 (by omega); have rs1 := FrK.below rs1 hgw2 (by omega)) | (go_at_call 51; (with_reducible refine (specAddGrant_calls _ _ _ _ _ _ _ _ x2 _ rs0.rd rs1.rd h2 hn0 hn1 hx0 ccs1).mono ?_); rintro e w8 ⟨Aw0, nw0, cw0, rfl, rw0, Nw0, hbw⟩; have z8 := hbw.size; have B8 := B7.trans (Below.mono hbw B7.size); have C8 := C7.trans (Below.mono hbw C7.size); have rs0 := FrRz.below rs0 hbw (by omega); have rs1 := FrK.below rs1 hbw (by omega)))
  go_wp2_with fail
  refine (toRoleSz_calls _ _ _ _ _ (RdRz.below h0 B8 (Nat.le_refl _)) hn0 hx0).mono ?_
  rintro e w9 ⟨Ai0, ci0, rfl, hoi0, hbi0⟩
  have z9 := hbi0.size
  have B9 := B8.trans (Below.mono hbi0 B8.size)
  have C9 := C8.trans (Below.mono hbi0 C8.size)
  have rw0 := FrK.below rw0 hbi0 (by omega)
  have ri0 := hoi0
  go_wp2_with fail
  refine (toGrantS_calls _ _ _ _ _ (RdK.below h1 B9 (Nat.le_refl _)) hn1).mono ?_
  rintro e w10 ⟨Ai1, ci1, rfl, hoi1, hbi1⟩
  have z10 := hbi1.size
  have B10 := B9.trans (Below.mono hbi1 B9.size)
  have C10 := C9.trans (Below.mono hbi1 C9.size)
  have rw0 := FrK.below rw0 hbi1 (by omega)
  have ri0 := FrRz.below ri0 hbi1 (by omega)
  have cci1 := own_cap hoi1
  have ri1 := FrK.of_own (K := kGrant) hoi1 h1.2.1 h1.2.2
  obtain ⟨e2_0, e2_1, e2_2⟩ := HX2.out
  replace e2_0 := (C10.cell hlt2).trans e2_0
  replace e2_1 := (C10.cell hlt2).trans e2_1
  replace e2_2 := (C10.cell hlt2).trans e2_2
  go_wp2_with fail
  refine (toGrant_calls x2.role x2.object x2.action _).mono ?_
  rintro e w11 ⟨rfl, hgg2⟩
  clear e2_0 e2_1 e2_2
  have z11 := hgg2.size
  have B11 := B10.trans (Below.mono hgg2 B10.size)
  have C11 := C10.trans (Below.mono hgg2 C10.size)
  have rw0 := FrK.below rw0 hgg2 (by omega)
  have ri0 := FrRz.below ri0 hgg2 (by omega)
  have ri1 := FrK.below ri1 hgg2 (by omega)
  go_wp2_with fail
  refine (implAddGrant_calls _ _ _ _ _ _ _ _ x2 _ ri0.rd ri1.rd h2 hn0 hn1 hx0 cci1).mono ?_
  rintro e w12 ⟨Ag0, ng0, cg0, rfl, rg0, Ng0, hbg⟩
  have z12 := hbg.size
  have B12 := B11.trans (Below.mono hbg B11.size)
  have C12 := C11.trans (Below.mono hbg C11.size)
  have rw0 := FrK.below rw0 hbg (by omega)
  have ri0 := FrRz.below ri0 hbg (by omega)
  have ri1 := FrK.below ri1 hbg (by omega)
  go_wp2_with fail
  refine (eqGrantS_calls _ _ _ _ _ _ _ _ _ rg0.rd rw0.rd Ng0 Nw0).mono ?_
  rintro e w13 ⟨rfl, hqp0⟩
  have hbp0 := hqp0
  clear hqp0
  have z13 := hbp0.size
  have B13 := B12.trans (Below.mono hbp0 B12.size)
  have C13 := C12.trans (Below.mono hbp0 C12.size)
  have rw0 := FrK.below rw0 hbp0 (by omega)
  have ri0 := FrRz.below ri0 hbp0 (by omega)
  have ri1 := FrK.below ri1 hbp0 (by omega)
  have rg0 := FrK.below rg0 hbp0 (by omega)
  go_wp2_with fail
  refine (toRoleSz_calls _ _ _ _ _ (RdRz.below h0 B13 (Nat.le_refl _)) hn0 hx0).mono ?_
  rintro e w14 ⟨Ae0, ce0, rfl, hoe0, hbe0⟩
  have z14 := hbe0.size
  have B14 := B13.trans (Below.mono hbe0 B13.size)
  have C14 := C13.trans (Below.mono hbe0 C13.size)
  have rw0 := FrK.below rw0 hbe0 (by omega)
  have ri0 := FrRz.below ri0 hbe0 (by omega)
  have ri1 := FrK.below ri1 hbe0 (by omega)
  have rg0 := FrK.below rg0 hbe0 (by omega)
  have re0 := hoe0
  go_wp2_with fail
  refine (eqRoleSz_calls _ _ _ _ _ _ _ _ _ ri0.rd re0.rd hn0 hn0 hx0 hx0).mono ?_
  rintro e w15 ⟨rfl, hqq0⟩
  have hbq0 := hqq0
  clear hqq0
  have z15 := hbq0.size
  have B15 := B14.trans (Below.mono hbq0 B14.size)
  have C15 := C14.trans (Below.mono hbq0 C14.size)
  have rw0 := FrK.below rw0 hbq0 (by omega)
  have ri0 := FrRz.below ri0 hbq0 (by omega)
  have ri1 := FrK.below ri1 hbq0 (by omega)
  have rg0 := FrK.below rg0 hbq0 (by omega)
  have re0 := FrRz.below re0 hbq0 (by omega)
  go_wp2_with fail
  refine (toGrantS_calls _ _ _ _ _ (RdK.below h1 B15 (Nat.le_refl _)) hn1).mono ?_
  rintro e w16 ⟨Ae1, ce1, rfl, hoe1, hbe1⟩
  have z16 := hbe1.size
  have B16 := B15.trans (Below.mono hbe1 B15.size)
  have C16 := C15.trans (Below.mono hbe1 C15.size)
  have rw0 := FrK.below rw0 hbe1 (by omega)
  have ri0 := FrRz.below ri0 hbe1 (by omega)
  have ri1 := FrK.below ri1 hbe1 (by omega)
  have rg0 := FrK.below rg0 hbe1 (by omega)
  have cce1 := own_cap hoe1
  have re1 := FrK.of_own (K := kGrant) hoe1 h1.2.1 h1.2.2
  go_wp2_with fail
  refine (eqGrantS_calls _ _ _ _ _ _ _ _ _ ri1.rd re1.rd hn1 hn1).mono ?_
  rintro e w17 ⟨rfl, hqq1⟩
  have hbq1 := hqq1
  clear hqq1
  have z17 := hbq1.size
  have B17 := B16.trans (Below.mono hbq1 B16.size)
  have C17 := C16.trans (Below.mono hbq1 C16.size)
  have rw0 := FrK.below rw0 hbq1 (by omega)
  have ri0 := FrRz.below ri0 hbq1 (by omega)
  have ri1 := FrK.below ri1 hbq1 (by omega)
  have rg0 := FrK.below rg0 hbq1 (by omega)
  have re1 := FrK.below re1 hbq1 (by omega)
  go_wp2_with fail
  refine (markRoleSz_calls _ _ _ _ _ _ _ _ ri0 hn0 hx0 (by omega) (by omega) (by omega)).mono ?_
  rintro e w18 ⟨kv0, rfl, kl0, kh0, wk0⟩
  have z18 := wk0.size
  have B18 := Wr.below B17 wk0 (by omega) B17.size
  have C18 := Wr.below C17 wk0 (by omega) C17.size
  have rw0 := FrK.wr rw0 wk0 (by omega)
  have ri1 := FrK.wr ri1 wk0 (by omega)
  have rg0 := FrK.wr rg0 wk0 (by omega)
  clear ri0
  go_wp2_with fail
  refine (markGrantS_calls _ _ _ _ _ _ _ _ ri1 hn1 (by omega) (by omega) (by omega)).mono ?_
  rintro e w19 ⟨rfl, rk1, wk1, zk1⟩
  have z19 := wk1.size
  have B19 := Wr.below B18 wk1 (by omega) B18.size
  have C19 := Wr.below C18 wk1 (by omega) C18.size
  have rw0 := FrK.wr rw0 wk1 (by omega)
  have rg0 := FrK.wr rg0 wk1 (by omega)
  clear ri1 zk1
  go_wp2_with fail
  refine (eqGrantS_calls _ _ _ _ _ _ _ _ _ rg0.rd rw0.rd Ng0 Nw0).mono ?_
  rintro e w20 ⟨rfl, hqr0⟩
  have hbr0 := hqr0
  clear hqr0
  have z20 := hbr0.size
  have B20 := B19.trans (Below.mono hbr0 B19.size)
  have C20 := C19.trans (Below.mono hbr0 C19.size)
  have rw0 := FrK.below rw0 hbr0 (by omega)
  have rg0 := FrK.below rg0 hbr0 (by omega)
  go_wp2_with fail
  refine (markGrantS_calls _ _ _ _ _ _ _ _ rg0 Ng0 (by omega) (by omega) (by omega)).mono ?_
  rintro e w21 ⟨rfl, rm0, wm0, zm0⟩
  have z21 := wm0.size
  have B21 := Wr.below B20 wm0 (by omega) B20.size
  have C21 := Wr.below C20 wm0 (by omega) C20.size
  have rw0 := FrK.wr rw0 wm0 (by omega)
  clear rg0 zm0
  go_wp2_with fail
  refine (heldGrantS_calls _ _ _ _ _ rm0.rd Ng0 (by omega) (by omega)).mono ?_
  rintro e w22 ⟨rfl, hbu0⟩
  have z22 := hbu0.size
  have B22 := B21.trans (Below.mono hbu0 B21.size)
  have C22 := C21.trans (Below.mono hbu0 C21.size)
  have rw0 := FrK.below rw0 hbu0 (by omega)
  have rm0 := FrK.below rm0 hbu0 (by omega)
  go_wp2
  have hdr22 := (Below.refl w22.heap.size w22).drew
  have z23 := hdr22.size
  have B23 := B22.trans (Below.mono hdr22 B22.size)
  have C23 := C22.trans (Below.mono hdr22 C22.size)
  have rw0 := FrK.below rw0 hdr22 (by omega)
  have rm0 := FrK.below rm0 hdr22 (by omega)
  go_region_held3 (fun w' => w'.cell? ⟨w.heap.size, 0, none⟩ = some (.string x2.role) ∧ w'.cell? ⟨w.heap.size, 1, none⟩ = some (.string x2.object) ∧ w'.cell? ⟨w.heap.size, 2, none⟩ = some (.int .i64 x2.action))
    (first | exact KS.out _ C27 | exact KS.out _ C26 | exact KS.out _ C25 | exact KS.out _ C24 | exact KS.out _ C23)
    (first | (go_at_call 16; (with_reducible refine (toRoleSz_calls _ _ _ _ _ (RdRz.below h0 B23 (Nat.le_refl _)) hn0 hx0).mono ?_); rintro e w24 ⟨Aj0, cj0, rfl, hoj0, hbj0⟩; have z24 := hbj0.size; have B24 := B23.trans (Below.mono hbj0 B23.size); have C24 := C23.trans (Below.mono hbj0 C23.size); have rw0 := FrK.below rw0 hbj0 (by omega); have rm0 := FrK.below rm0 hbj0 (by omega); have rj0 := hoj0) | (go_at_call 27; (with_reducible refine (toGrantS_calls _ _ _ _ _ (RdK.below h1 B24 (Nat.le_refl _)) hn1).mono ?_); rintro e w25 ⟨Aj1, cj1, rfl, hoj1, hbj1⟩; have z25 := hbj1.size; have B25 := B24.trans (Below.mono hbj1 B24.size); have C25 := C24.trans (Below.mono hbj1 C24.size); have rw0 := FrK.below rw0 hbj1 (by omega); have rm0 := FrK.below rm0 hbj1 (by omega); have rj0 := FrRz.below rj0 hbj1 (by omega); have ccj1 := own_cap hoj1; have rj1 := FrK.of_own (K := kGrant) hoj1 h1.2.1 h1.2.2) | (go_at_call 34; (with_reducible refine (toGrant_calls x2.role x2.object x2.action _).mono ?_); rintro e w26 ⟨rfl, hgh2⟩; have z26 := hgh2.size; have B26 := B25.trans (Below.mono hgh2 B25.size); have C26 := C25.trans (Below.mono hgh2 C25.size); have rw0 := FrK.below rw0 hgh2 (by omega); have rm0 := FrK.below rm0 hgh2 (by omega); have rj0 := FrRz.below rj0 hgh2 (by omega); have rj1 := FrK.below rj1 hgh2 (by omega)) | (go_at_call 52; (with_reducible refine (implAddGrant_calls _ _ _ _ _ _ _ _ x2 _ rj0.rd rj1.rd h2 hn0 hn1 hx0 ccj1).mono ?_); rintro e w27 ⟨Ah0, nh0, ch0, rfl, rh0, Nh0, hbh⟩; have z27 := hbh.size; have B27 := B26.trans (Below.mono hbh B26.size); have C27 := C26.trans (Below.mono hbh C26.size); have rw0 := FrK.below rw0 hbh (by omega); have rm0 := FrK.below rm0 hbh (by omega); have rj0 := FrRz.below rj0 hbh (by omega); have rj1 := FrK.below rj1 hbh (by omega)))
  go_wp2_with fail
  refine (eqGrantS_calls _ _ _ _ _ _ _ _ _ rh0.rd rw0.rd Nh0 Nw0).mono ?_
  rintro e w28 ⟨rfl, hqv0⟩
  have hbv0 := hqv0
  clear hqv0
  have z28 := hbv0.size
  have B28 := B27.trans (Below.mono hbv0 B27.size)
  have C28 := C27.trans (Below.mono hbv0 C27.size)
  have rw0 := FrK.below rw0 hbv0 (by omega)
  have rm0 := FrK.below rm0 hbv0 (by omega)
  have rh0 := FrK.below rh0 hbv0 (by omega)
  go_wp2_with fail
  refine (heldGrantS_calls _ _ _ _ _ rm0.rd Ng0 (by omega) (by omega)).mono ?_
  rintro e w29 ⟨rfl, hbx0⟩
  have z29 := hbx0.size
  have B29 := B28.trans (Below.mono hbx0 B28.size)
  have C29 := C28.trans (Below.mono hbx0 C28.size)
  have rw0 := FrK.below rw0 hbx0 (by omega)
  have rm0 := FrK.below rm0 hbx0 (by omega)
  have rh0 := FrK.below rh0 hbx0 (by omega)
  go_wp2
  go_ret
  exact ⟨rfl, B29⟩

end Go.Proofs.Ytidhbpnibgegdaa

/- The law FnExactUndoVersion returns true for all arguments: its walk. -/
import Derived.Test.YtlomloepdnojoaaDoorUndo
import Derived.Test.YtlomloepdnojoaaDoorMarkVV
namespace Go.Proofs.YtlomloepdnojoaaDoor
open Go.RowKit
set_option linter.unusedVariables false

set_option maxRecDepth 100000 in
set_option maxHeartbeats 4000000 in
theorem law_UndoVersion (A0 : Option Addr) (n0 c0 : Nat) (x0 : List VerZ) (a1 : Int) (w : World) (HT : TabP w) (h0 : RdVz w A0 n0 x0) (N0 : n0 ≤ 9223372036854775807) (h1 : I64 a1) :
    Calls Tryd.prog 3 #[.slice A0 n0 c0, .int .i64 a1] w fun e w' => e = .returned (.bool true) ∧ Below w.heap.size w w' := by
  have B0 := Below.refl w.heap.size w
  have z0 : w.heap.size ≤ w.heap.size := Nat.le_refl _
  go_enter Tryd.func3, Tryd.ntmps3
  go_wp2_with fail
  refine (szVersionSz_calls _ _ _ _ _ _ (RdVz.below h0 B0 (Nat.le_refl _)) (by omega) (by omega) N0).mono ?_
  rintro e w1 ⟨r0, rfl, ra0, rb0, rc0, hz0⟩
  have z1 := hz0.size
  have B1 := B0.trans (Below.mono hz0 B0.size)
  by_cases hneg0 : r0 < 0
  case pos =>
    go_wp2
    go_ret
    exact ⟨rfl, B1⟩
  obtain ⟨hl0, F0⟩ := rc0 (by omega)
  have hn0 : n0 ≤ 1048576 := by omega
  have HF0 := hide F0
  have hx0 : Short x0 := fun v hv => by have := (F0 v hv).2; omega
  clear F0 rc0
  go_wp2_with fail
  refine (toVersionSz_calls _ _ _ _ _ (RdVz.below h0 B1 (Nat.le_refl _)) hn0 hx0).mono ?_
  rintro e w2 ⟨As0, cs0, rfl, hos0, hbs0⟩
  have z2 := hbs0.size
  have B2 := B1.trans (Below.mono hbs0 B1.size)
  have rs0 := hos0
  go_wp2_with fail
  refine (specUndoVersion_calls _ _ _ _ _ _ rs0.rd h1 hn0 hx0).mono ?_
  rintro e w3 ⟨Aw0, nw0, cw0, rfl, rw0, Nw0, hbw⟩
  have z3 := hbw.size
  have B3 := B2.trans (Below.mono hbw B2.size)
  have rs0 := FrVz.below rs0 hbw (by omega)
  have hxr0 := hide (undR_short (a := a1) hx0)
  go_wp2_with fail
  refine (toVersionSz_calls _ _ _ _ _ (RdVz.below h0 B3 (Nat.le_refl _)) hn0 hx0).mono ?_
  rintro e w4 ⟨Ai0, ci0, rfl, hoi0, hbi0⟩
  have z4 := hbi0.size
  have B4 := B3.trans (Below.mono hbi0 B3.size)
  have rw0 := FrVz.below rw0 hbi0 (by omega)
  have ri0 := hoi0
  go_wp2_with fail
  refine (implUndoVersion_calls _ _ _ _ _ _ (HT.below B4 (Nat.le_refl _)) ri0.rd h1 hn0 hx0).mono ?_
  rintro e w5 ⟨Ag0, ng0, cg0, rfl, rg0, Ng0, hbg⟩
  have z5 := hbg.size
  have B5 := B4.trans (Below.mono hbg B4.size)
  have rw0 := FrVz.below rw0 hbg (by omega)
  have ri0 := FrVz.below ri0 hbg (by omega)
  go_wp2_with fail
  refine (eqVersionSz_calls _ _ _ _ _ _ _ _ _ rg0.rd rw0.rd Ng0 Nw0 hxr0.out hxr0.out).mono ?_
  rintro e w6 ⟨rfl, hqp0⟩
  have hbp0 := hqp0
  clear hqp0
  have z6 := hbp0.size
  have B6 := B5.trans (Below.mono hbp0 B5.size)
  have rw0 := FrVz.below rw0 hbp0 (by omega)
  have ri0 := FrVz.below ri0 hbp0 (by omega)
  have rg0 := FrVz.below rg0 hbp0 (by omega)
  go_wp2_with fail
  refine (toVersionSz_calls _ _ _ _ _ (RdVz.below h0 B6 (Nat.le_refl _)) hn0 hx0).mono ?_
  rintro e w7 ⟨Ae0, ce0, rfl, hoe0, hbe0⟩
  have z7 := hbe0.size
  have B7 := B6.trans (Below.mono hbe0 B6.size)
  have rw0 := FrVz.below rw0 hbe0 (by omega)
  have ri0 := FrVz.below ri0 hbe0 (by omega)
  have rg0 := FrVz.below rg0 hbe0 (by omega)
  have re0 := hoe0
  go_wp2_with fail
  refine (eqVersionSz_calls _ _ _ _ _ _ _ _ _ ri0.rd re0.rd hn0 hn0 hx0 hx0).mono ?_
  rintro e w8 ⟨rfl, hqq0⟩
  have hbq0 := hqq0
  clear hqq0
  have z8 := hbq0.size
  have B8 := B7.trans (Below.mono hbq0 B7.size)
  have rw0 := FrVz.below rw0 hbq0 (by omega)
  have ri0 := FrVz.below ri0 hbq0 (by omega)
  have rg0 := FrVz.below rg0 hbq0 (by omega)
  have re0 := FrVz.below re0 hbq0 (by omega)
  go_wp2_with fail
  refine (markVersionSz_calls _ _ _ _ _ _ _ _ ri0 hn0 hx0 (by omega) (by omega) (by omega)).mono ?_
  rintro e w9 ⟨kv0, rfl, kl0, kh0, wk0⟩
  have z9 := wk0.size
  have B9 := Wr.below B8 wk0 (by omega) B8.size
  have rw0 := FrVz.wr rw0 wk0 (by omega)
  have rg0 := FrVz.wr rg0 wk0 (by omega)
  clear ri0
  go_wp2_with fail
  refine (eqVersionSz_calls _ _ _ _ _ _ _ _ _ rg0.rd rw0.rd Ng0 Nw0 hxr0.out hxr0.out).mono ?_
  rintro e w10 ⟨rfl, hqr0⟩
  have hbr0 := hqr0
  clear hqr0
  have z10 := hbr0.size
  have B10 := B9.trans (Below.mono hbr0 B9.size)
  have rw0 := FrVz.below rw0 hbr0 (by omega)
  have rg0 := FrVz.below rg0 hbr0 (by omega)
  go_wp2_with fail
  refine (markVersionSk_calls _ _ _ _ _ _ _ _ rg0 Ng0 hxr0.out (by omega) (by omega) (by omega)).mono ?_
  rintro e w11 ⟨rfl, rm0, wm0, zm0⟩
  have z11 := wm0.size
  have B11 := Wr.below B10 wm0 (by omega) B10.size
  have rw0 := FrVz.wr rw0 wm0 (by omega)
  clear rg0 zm0
  go_wp2_with fail
  refine (heldVersionSk_calls _ _ _ _ _ _ rm0.rd Ng0 hxr0.out (by omega) (by omega)).mono ?_
  rintro e w12 ⟨rfl, hbu0⟩
  have z12 := hbu0.size
  have B12 := B11.trans (Below.mono hbu0 B11.size)
  have rw0 := FrVz.below rw0 hbu0 (by omega)
  have rm0 := FrVz.below rm0 hbu0 (by omega)
  go_wp2_with fail
  refine (toVersionSz_calls _ _ _ _ _ (RdVz.below h0 B12 (Nat.le_refl _)) hn0 hx0).mono ?_
  rintro e w13 ⟨Aj0, cj0, rfl, hoj0, hbj0⟩
  have z13 := hbj0.size
  have B13 := B12.trans (Below.mono hbj0 B12.size)
  have rw0 := FrVz.below rw0 hbj0 (by omega)
  have rm0 := FrVz.below rm0 hbj0 (by omega)
  have rj0 := hoj0
  go_wp2_with fail
  refine (implUndoVersion_calls _ _ _ _ _ _ (HT.below B13 (Nat.le_refl _)) rj0.rd h1 hn0 hx0).mono ?_
  rintro e w14 ⟨Ah0, nh0, ch0, rfl, rh0, Nh0, hbh⟩
  have z14 := hbh.size
  have B14 := B13.trans (Below.mono hbh B13.size)
  have rw0 := FrVz.below rw0 hbh (by omega)
  have rm0 := FrVz.below rm0 hbh (by omega)
  have rj0 := FrVz.below rj0 hbh (by omega)
  go_wp2_with fail
  refine (eqVersionSz_calls _ _ _ _ _ _ _ _ _ rh0.rd rw0.rd Nh0 Nw0 hxr0.out hxr0.out).mono ?_
  rintro e w15 ⟨rfl, hqv0⟩
  have hbv0 := hqv0
  clear hqv0
  have z15 := hbv0.size
  have B15 := B14.trans (Below.mono hbv0 B14.size)
  have rw0 := FrVz.below rw0 hbv0 (by omega)
  have rm0 := FrVz.below rm0 hbv0 (by omega)
  have rh0 := FrVz.below rh0 hbv0 (by omega)
  go_wp2_with fail
  refine (heldVersionSk_calls _ _ _ _ _ _ rm0.rd Ng0 hxr0.out (by omega) (by omega)).mono ?_
  rintro e w16 ⟨rfl, hbx0⟩
  have z16 := hbx0.size
  have B16 := B15.trans (Below.mono hbx0 B15.size)
  have rw0 := FrVz.below rw0 hbx0 (by omega)
  have rm0 := FrVz.below rm0 hbx0 (by omega)
  have rh0 := FrVz.below rh0 hbx0 (by omega)
  go_wp2
  go_ret
  exact ⟨rfl, B16⟩

end Go.Proofs.YtlomloepdnojoaaDoor

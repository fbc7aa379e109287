/- The law FnExactReadSeries returns true for all arguments: its walk. -/
import Derived.Test.YtlomloepdnojoaaDoorReadSe
import Derived.Test.YtlomloepdnojoaaDoorHelpI
import Derived.Test.YtlomloepdnojoaaDoorMarkI
namespace Go.Proofs.YtlomloepdnojoaaDoor
open Go.RowKit
set_option linter.unusedVariables false

set_option maxRecDepth 100000 in
set_option maxHeartbeats 4000000 in
theorem law_ReadSeries (a0 : ByteArray) (w : World) (HT : TabPME w) (h0 : a0.size ≤ 9223372036854775807) :
    Calls Tryd.prog 7 #[.string a0] w fun e w' => e = .returned (.bool true) ∧ Below w.heap.size w w' := by
  by_cases hn0 : a0.size ≤ 1048576
  case neg =>
    have hn' : decide ((1048576 : Int) < a0.size) = true := by simp; omega
    go_enter Tryd.func7, Tryd.ntmps7
    go_wp2
    go_ret
    exact ⟨rfl, Below.refl _ _⟩
  have hd0 : decide ((1048576 : Int) < a0.size) = false := by simp; omega
  have B0 := Below.refl w.heap.size w
  have z0 : w.heap.size ≤ w.heap.size := Nat.le_refl _
  go_enter Tryd.func7, Tryd.ntmps7
  go_wp2_with fail
  refine (specReadSeries_calls _ _ h0 hn0).mono ?_
  rintro e w1 ⟨Aw0, nw0, cw0, rfl, rw0, Nw0, hbw⟩
  have z1 := hbw.size
  have B1 := B0.trans (Below.mono hbw B0.size)
  go_wp2_with fail
  refine (implReadSeries_calls _ _ (HT.below B1 (Nat.le_refl _)) h0 hn0).mono ?_
  rintro e w2 ⟨Ag0, ng0, cg0, rfl, rg0, Ng0, hbg⟩
  have z2 := hbg.size
  have B2 := B1.trans (Below.mono hbg B1.size)
  have rw0 := FrI.below rw0 hbg (by omega)
  go_wp2_with fail
  refine (eqInt64S_calls _ _ _ _ _ _ _ _ _ rg0.rd rw0.rd Ng0 Nw0).mono ?_
  rintro e w3 ⟨rfl, hqp0⟩
  have hbp0 := below_of_draws hqp0
  clear hqp0
  have z3 := hbp0.size
  have B3 := B2.trans (Below.mono hbp0 B2.size)
  have rw0 := FrI.below rw0 hbp0 (by omega)
  have rg0 := FrI.below rg0 hbp0 (by omega)
  go_wp2_with fail
  refine (markInt64S_calls _ _ _ _ _ _ _ _ rg0 Ng0 (by omega) (by omega)).mono ?_
  rintro e w4 ⟨rfl, rm0, wm0, zm0⟩
  have z4 := wm0.size
  have B4 := Wr.below B3 wm0 (by omega) B3.size
  have rw0 := FrI.wr rw0 wm0 (by omega)
  clear rg0 zm0
  go_wp2_with fail
  refine (heldInt64S_calls _ _ _ _ _ rm0.rd Ng0 (by omega) (by omega)).mono ?_
  rintro e w5 ⟨rfl, rfl⟩
  go_wp2_with fail
  refine (implReadSeries_calls _ _ (HT.below B4 (Nat.le_refl _)) h0 hn0).mono ?_
  rintro e w5 ⟨Ah0, nh0, ch0, rfl, rh0, Nh0, hbh⟩
  have z5 := hbh.size
  have B5 := B4.trans (Below.mono hbh B4.size)
  have rw0 := FrI.below rw0 hbh (by omega)
  have rm0 := FrI.below rm0 hbh (by omega)
  go_wp2_with fail
  refine (eqInt64S_calls _ _ _ _ _ _ _ _ _ rh0.rd rw0.rd Nh0 Nw0).mono ?_
  rintro e w6 ⟨rfl, hqv0⟩
  have hbv0 := below_of_draws hqv0
  clear hqv0
  have z6 := hbv0.size
  have B6 := B5.trans (Below.mono hbv0 B5.size)
  have rw0 := FrI.below rw0 hbv0 (by omega)
  have rm0 := FrI.below rm0 hbv0 (by omega)
  have rh0 := FrI.below rh0 hbv0 (by omega)
  go_wp2_with fail
  refine (heldInt64S_calls _ _ _ _ _ rm0.rd Ng0 (by omega) (by omega)).mono ?_
  rintro e w7 ⟨rfl, rfl⟩
  go_wp2
  go_ret
  exact ⟨rfl, B6⟩

end Go.Proofs.YtlomloepdnojoaaDoor

/- MedianOf and OddDays of the program and of the reference. -/
import Derived.Test.YtcclfmapbgdpdaaGreatDoorMedian
import Derived.Deep.RegionHeld3
import Derived.Deep.AppendLies
namespace Go.Proofs.YtcclfmapbgdpdaaGreatDoor
open Go.RowKit
set_option linter.unusedVariables false

def medV (xs : List Int) : Int := if okSer xs then medZ xs else 0

theorem implMedianOf_calls (A : Option Addr) (n c : Nat) (xs : List Int) (w : World) (h : RdI w A n xs) (hn : n ≤ 1048576) :
    Calls Tryz.prog 10 #[.slice A n c] w fun e w' => e = .returned (.tuple #[.int .i64 (medV xs), .int .i64 (okCode xs)]) ∧ Below w.heap.size w w' := by
  have HL := hide h.len
  cases hok : okSer xs
  · go_enter Tryz.func10, Tryz.ntmps10
    go_wp2_with fail
    refine (implValidSeries_calls _ _ _ _ _ h hn).mono ?_
    rintro e w' ⟨rfl, rfl⟩
    rw [hok]
    go_wp2
    go_ret2
    exact ⟨by simp [medV, okCode, hok], Below.refl _ _⟩
  · have h1 := ok_len hok
    rw [HL.out] at h1
    have HOK := hide hok
    go_enter Tryz.func10, Tryz.ntmps10
    go_wp2_with fail
    refine (implValidSeries_calls _ _ _ _ _ h hn).mono ?_
    rintro e w' ⟨rfl, rfl⟩
    rw [hok]
    clear hok
    go_wp2_with fail
    refine (median_calls _ _ _ _ _ h h1.2 h1.1 (ok_mem HOK.out)).mono ?_
    rintro e w' ⟨rfl, hb⟩
    go_wp2
    go_ret2
    exact ⟨by simp [medV, okCode, HOK.out], hb⟩

end Go.Proofs.YtcclfmapbgdpdaaGreatDoor

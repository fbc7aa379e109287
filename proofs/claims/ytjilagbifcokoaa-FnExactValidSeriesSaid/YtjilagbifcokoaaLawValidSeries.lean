/- The law FnExactValidSeries returns true for every list. -/
import Derived.Test.YtjilagbifcokoaaSer
import Derived.Test.YtjilagbifcokoaaHelpI
namespace Go.Proofs.Ytjilagbifcokoaa
open Go.RowKit

set_option maxHeartbeats 400000 in
theorem law_ValidSeries (A : Option Addr) (n c : Nat) (xs : List Int) (w : World) (h : RdI w A n xs) :
    Calls Try.prog 4 #[.slice A n c] w fun e w' => e = .returned (.bool true) ∧ Below w.heap.size w w' := by
  by_cases hn : n ≤ 1048576
  · have hn' : decide ((1048576 : Int) < n) = false := by simp; omega
    go_enter Try.func4, Try.ntmps4
    go_wp2_with fail
    refine (toInt64S_calls _ _ _ _ _ h hn).mono ?_
    rintro e w1 ⟨A1, c1, rfl, ho1, hb1⟩
    go_wp2_with fail
    refine (specValidSeries_calls _ _ _ _ _ (RdI.of_own ho1 h.2) hn).mono ?_
    rintro e w' ⟨rfl, rfl⟩
    go_wp2_with fail
    refine (toInt64S_calls _ _ _ _ _ (h.below hb1 (Nat.le_refl _)) hn).mono ?_
    rintro e w2 ⟨A2, c2, rfl, ho2, hb2⟩
    have hB2 := hb1.trans (hb2.mono hb1.size)
    go_wp2_with fail
    refine (implValidSeries_calls _ _ _ _ _ (RdI.of_own ho2 h.2) hn).mono ?_
    rintro e w' ⟨rfl, rfl⟩
    go_wp2_with fail
    refine (toInt64S_calls _ _ _ _ _ (h.below hB2 (Nat.le_refl _)) hn).mono ?_
    rintro e w3 ⟨A3, c3, rfl, ho3, hb3⟩
    go_wp2_with fail
    refine (eqInt64S_calls _ _ _ _ _ _ _ _ _ ((RdI.of_own ho2 h.2).below hb3 (Nat.le_refl _)) (RdI.of_own ho3 h.2) hn hn).mono ?_
    rintro e w4 ⟨rfl, m, rfl⟩
    go_wp2
    go_ret
    exact ⟨rfl, below_drewN (hB2.trans (hb3.mono hB2.size)) _⟩
  · have hn' : decide ((1048576 : Int) < n) = true := by simp; omega
    go_enter Try.func4, Try.ntmps4
    go_wp2
    go_ret
    exact ⟨rfl, Below.refl _ _⟩

end Go.Proofs.Ytjilagbifcokoaa

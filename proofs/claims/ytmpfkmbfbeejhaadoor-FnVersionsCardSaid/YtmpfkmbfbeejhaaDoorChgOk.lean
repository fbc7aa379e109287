/- Is a change valid? spec.l27Change, the closure of impl.ApplyChanges. -/
import Derived.Test.YtmpfkmbfbeejhaaDoorChgZ
import Derived.Test.YtmpfkmbfbeejhaaDoorMg
namespace Go.Proofs.YtmpfkmbfbeejhaaDoor
open Go.RowKit
set_option linter.unusedVariables false

def chgB (c : ChangeZ) : Bool := withinB c.kind 1 2 && setB c.name c.value


theorem applyClos_calls (k v : Int) (nm : ByteArray) (w : World) (hs : nm.size ≤ 9223372036854775807) :
    Calls Tryd.prog 28 #[.agg #[.int .i64 k, .string nm, .int .i64 v]] w fun e w' => e = .returned (.bool (!chgB ⟨k, nm, v⟩)) ∧ Below w.heap.size w w' := by
  have hfin : Hid (chgB ⟨k, nm, v⟩ = (withinB k 1 2 && setB nm v)) := rfl
  have hb1 : Below w.heap.size w (w.alloc (.cells #[.int .i64 k, .string nm, .int .i64 v] 60)) := (Below.refl _ _).alloc (Nat.le_refl _) _
  have HB := hide hb1
  clear hb1
  rcases b_cases (withinB k 1 2) with h1 | h1
  · have H1 := hide h1
    clear h1
    go_enter Tryd.func28, Tryd.ntmps28
    go_wp2_with fail
    refine (within_calls _ _ _ _).mono ?_
    rintro e w' ⟨rfl, rfl⟩
    rw [H1.out]
    go_wp2
    go_ret
    exact ⟨ret_bool (by rw [hfin.out, H1.out]; rfl), HB.out⟩
  · have H1 := hide h1
    clear h1
    go_enter Tryd.func28, Tryd.ntmps28
    go_wp2_with fail
    refine (within_calls _ _ _ _).mono ?_
    rintro e w' ⟨rfl, rfl⟩
    rw [H1.out]
    go_wp2_with fail
    refine (validSetting_calls nm v _ hs).mono ?_
    rintro e w1 ⟨rfl, hb2⟩
    go_wp2
    go_ret
    exact ⟨ret_bool (by rw [hfin.out, H1.out]; rfl), HB.out.trans (hb2.mono HB.out.size)⟩

/-- All changes, one after the other. -/
def appZ : List SetZ → List ChangeZ → List SetZ × Int
  | ss, [] => (ss, 0)
  | ss, c :: r => if chgC ss c = 0 then appZ (chgL ss c) r else ([], chgC ss c)
theorem appZ_drop {ss : List SetZ} {cs : List ChangeZ} {k : Nat} {c : ChangeZ} (hc : cs[k]? = some c) : appZ ss (cs.drop k) = if chgC ss c = 0 then appZ (chgL ss c) (cs.drop (k + 1)) else ([], chgC ss c) := by
  obtain ⟨hk, rfl⟩ := List.getElem?_eq_some_iff.1 hc
  rw [List.drop_eq_getElem_cons hk, appZ]
def apC (ss : List SetZ) (cs : List ChangeZ) : Int := if stateB ss && cs.all chgB then (appZ ss cs).2 else 1
def apV (ss : List SetZ) (cs : List ChangeZ) : List SetZ := if stateB ss && cs.all chgB then (appZ ss cs).1 else []

end Go.Proofs.YtmpfkmbfbeejhaaDoor

/- The variables of the library that the program reads: what the callers hand on from world to world. -/
import Derived.Test.YtmpfkmbfbeejhaaDoorRows
import Derived.Test.YtmpfkmbfbeejhaaDoorMg
import Derived.Lib.LaidTab
import Derived.Lib.SmallJoins
import Derived.Lib.ItoaNum
namespace Go.Proofs.YtmpfkmbfbeejhaaDoor
open Go.RowKit

theorem gPow : Tryd.prog.globalNamed "internal/strconv.uint64pow10" = some 0 := by kernel_rfl
/-- The powers of ten lie as the library lays them. -/
def TabP (w : World) : Prop := Lib.TabIs Tryd.prog w "internal/strconv.uint64pow10" .u64 Lib.pow10Tab
theorem TabP.below {w w' : World} (h : TabP w) {B : Nat} (hb : Below B w w') (hB : w.heap.size ≤ B) : TabP w' := Joins.tab_stays gPow h hb hB
theorem TabP.drew {w : World} (h : TabP w) : TabP w.drew := h
theorem TabP.here {w w' : World} (h : TabP w) (hb : Below w.heap.size w w') : TabP w' := h.below hb (Nat.le_refl _)

end Go.Proofs.YtmpfkmbfbeejhaaDoor

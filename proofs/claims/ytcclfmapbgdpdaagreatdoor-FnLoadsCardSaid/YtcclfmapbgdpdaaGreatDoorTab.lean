/- The variables of the library that the program reads: what the callers hand on from world to world. -/
import Derived.Test.YtcclfmapbgdpdaaGreatDoorRows
import Derived.Test.YtcclfmapbgdpdaaGreatDoorMg
import Derived.Lib.LaidTab
import Derived.Lib.SmallJoins
import Derived.Lib.ItoaNum
namespace Go.Proofs.YtcclfmapbgdpdaaGreatDoor
open Go.RowKit

theorem gPow : Tryz.prog.globalNamed "internal/strconv.uint64pow10" = some 3 := by kernel_rfl
/-- The powers of ten lie as the library lays them. -/
def TabP (w : World) : Prop := Lib.TabIs Tryz.prog w "internal/strconv.uint64pow10" .u64 Lib.pow10Tab
theorem TabP.below {w w' : World} (h : TabP w) {B : Nat} (hb : Below B w w') (hB : w.heap.size ≤ B) : TabP w' := Joins.tab_stays gPow h hb hB
theorem TabP.drew {w : World} (h : TabP w) : TabP w.drew := h
theorem TabP.here {w w' : World} (h : TabP w) (hb : Below w.heap.size w w') : TabP w' := h.below hb (Nat.le_refl _)
/-- MaxLen holds a number. -/
def TabM (w : World) : Prop := ∃ m : Int, w.cell? ⟨0, 0, none⟩ = some (.int .i64 m)
theorem TabM.below {w w' : World} (h : TabM w) {B : Nat} (hb : Below B w w') (hB : w.heap.size ≤ B) : TabM w' := by
  obtain ⟨m, hm⟩ := h
  refine ⟨m, (hb.cell (p := ⟨0, 0, none⟩) ?_).trans hm⟩
  exact Nat.lt_of_lt_of_le (World.block_lt_of_cell? _ _ hm) hB
theorem TabM.drew {w : World} (h : TabM w) : TabM w.drew := h
theorem TabM.here {w w' : World} (h : TabM w) (hb : Below w.heap.size w w') : TabM w' := h.below hb (Nat.le_refl _)
/-- Both. -/
def TabPM (w : World) : Prop := TabP w ∧ TabM w
theorem TabPM.below {w w' : World} (h : TabPM w) {B : Nat} (hb : Below B w w') (hB : w.heap.size ≤ B) : TabPM w' := ⟨h.1.below hb hB, h.2.below hb hB⟩
theorem TabPM.drew {w : World} (h : TabPM w) : TabPM w.drew := h
theorem TabPM.here {w w' : World} (h : TabPM w) (hb : Below w.heap.size w w') : TabPM w' := h.below hb (Nat.le_refl _)
theorem gSyn : Tryz.prog.globalNamed "strconv.ErrSyntax" = some 1 := by kernel_rfl
theorem gRng : Tryz.prog.globalNamed "strconv.ErrRange" = some 2 := by kernel_rfl
/-- The library's two errors of numbers hold something. -/
def TabE (w : World) : Prop := (∃ tp p, w.var? Tryz.prog "strconv.ErrSyntax" = some #[.iface tp p]) ∧ ∃ tp p, w.var? Tryz.prog "strconv.ErrRange" = some #[.iface tp p]
theorem TabE.below {w w' : World} (h : TabE w) {B : Nat} (hb : Below B w w') (hB : w.heap.size ≤ B) : TabE w' := by
  obtain ⟨⟨t1, p1, h1⟩, t2, p2, h2⟩ := h
  exact ⟨⟨t1, p1, Joins.var_stays gSyn h1 hb hB⟩, t2, p2, Joins.var_stays gRng h2 hb hB⟩
theorem TabE.here {w w' : World} (h : TabE w) (hb : Below w.heap.size w w') : TabE w' := h.below hb (Nat.le_refl _)
/-- The tables and the errors of numbers. -/
def TabPME (w : World) : Prop := TabPM w ∧ TabE w
theorem TabPME.below {w w' : World} (h : TabPME w) {B : Nat} (hb : Below B w w') (hB : w.heap.size ≤ B) : TabPME w' := ⟨h.1.below hb hB, h.2.below hb hB⟩
theorem TabPME.here {w w' : World} (h : TabPME w) (hb : Below w.heap.size w w') : TabPME w' := h.below hb (Nat.le_refl _)

end Go.Proofs.YtcclfmapbgdpdaaGreatDoor

/- Contracts of the helpers of the laws on lists of int64 (toInt64S, eqInt64S ..). -/
import Derived.Test.YtcclfmapbgdpdaaGreatDoorRows
import Derived.Test.YtcclfmapbgdpdaaGreatDoorBase
namespace Go.Proofs.YtcclfmapbgdpdaaGreatDoor
open Go.RowKit

theorem Tryz.info2 : (Tryz.prog.info? 2).map (fun i => (i.zero, i.size, i.bytes)) = some (some (.int .i64 0), 1, 8) := by kernel_rfl

end Go.Proofs.YtcclfmapbgdpdaaGreatDoor

/- Contracts of the helpers of the laws on lists of int64 (toInt64S, eqInt64S ..). -/
import Derived.Test.YtmpfkmbfbeejhaaDoorRows
import Derived.Test.YtmpfkmbfbeejhaaDoorMg
namespace Go.Proofs.YtmpfkmbfbeejhaaDoor
open Go.RowKit

theorem Tryd.info2 : (Tryd.prog.info? 2).map (fun i => (i.zero, i.size, i.bytes)) = some (some (.int .i64 0), 1, 8) := by kernel_rfl

end Go.Proofs.YtmpfkmbfbeejhaaDoor

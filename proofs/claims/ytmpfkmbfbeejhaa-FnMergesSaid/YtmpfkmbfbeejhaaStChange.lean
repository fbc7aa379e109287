/- The struct Change: what its slices read as, and the laws' helpers on it. Printed by structgen.py. -/
import Derived.Test.YtmpfkmbfbeejhaaRows
import Derived.Test.YtmpfkmbfbeejhaaKind
import Derived.Test.YtmpfkmbfbeejhaaMarkT
import Derived.Test.YtmpfkmbfbeejhaaMg
import Derived.Test.YtmpfkmbfbeejhaaVerTo
import Derived.Deep.RegionHeld3
namespace Go.Proofs.Ytmpfkmbfbeejhaa
open Go.RowKit
set_option linter.unusedVariables false

end Go.Proofs.Ytmpfkmbfbeejhaa

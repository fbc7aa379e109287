/- DiffStates of the program and of the reference. -/
import Derived.Test.YtmpfkmbfbeejhaaLook
import Derived.Test.YtmpfkmbfbeejhaaAre
import Derived.Test.YtmpfkmbfbeejhaaStChange
namespace Go.Proofs.Ytmpfkmbfbeejhaa
open Go.RowKit
set_option linter.unusedVariables false

end Go.Proofs.Ytmpfkmbfbeejhaa

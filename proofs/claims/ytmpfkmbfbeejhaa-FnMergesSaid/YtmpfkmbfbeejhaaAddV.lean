/- l27Add of the reference: a list of versions with one more. -/
import Derived.Test.YtmpfkmbfbeejhaaCommitS
namespace Go.Proofs.Ytmpfkmbfbeejhaa
open Go.RowKit
set_option linter.unusedVariables false

end Go.Proofs.Ytmpfkmbfbeejhaa

/- l27Add of the reference: a list of versions with one more. -/
import Derived.Test.YtmpfkmbfbeejhaaDoorCommitS
namespace Go.Proofs.YtmpfkmbfbeejhaaDoor
open Go.RowKit
set_option linter.unusedVariables false

end Go.Proofs.YtmpfkmbfbeejhaaDoor

/- The shelf of builders, by its other name. -/
import Derived.Test.YtmpfkmbfbeejhaaDoorShelp
namespace Go.Proofs.YtmpfkmbfbeejhaaDoor
end Go.Proofs.YtmpfkmbfbeejhaaDoor

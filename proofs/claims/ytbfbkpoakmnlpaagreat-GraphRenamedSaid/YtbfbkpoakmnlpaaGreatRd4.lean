/- Contracts: reduct.Rounds$1. -/
import Derived.Test.YtbfbkpoakmnlpaaGreatG4
import Derived.Test.YtbfbkpoakmnlpaaGreatG1
import Derived.Test.YtbfbkpoakmnlpaaGreatG2
import Derived.Deep.RegionHeldLaw
import Derived.Deep.AppendLies
namespace Go.Proofs.YtbfbkpoakmnlpaaGreat
open Go.RowKit
end Go.Proofs.YtbfbkpoakmnlpaaGreat

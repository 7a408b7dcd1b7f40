/- Contracts: reduct.Rounds$1. -/
import Derived.Test.YtbfbkpoakmnlpaaG4
import Derived.Test.YtbfbkpoakmnlpaaG1
import Derived.Test.YtbfbkpoakmnlpaaG2
import Derived.Deep.RegionHeldLaw
import Derived.Deep.AppendLies
namespace Go.Proofs.Ytbfbkpoakmnlpaa
open Go.RowKit

end Go.Proofs.Ytbfbkpoakmnlpaa

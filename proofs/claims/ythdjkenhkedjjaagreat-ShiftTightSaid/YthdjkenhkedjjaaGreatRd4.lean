/- Contracts: reduct.Rounds$1. -/
import Derived.Test.YthdjkenhkedjjaaGreatG4
import Derived.Test.YthdjkenhkedjjaaGreatG1
import Derived.Test.YthdjkenhkedjjaaGreatG2
import Derived.Deep.RegionHeldLaw
import Derived.Deep.AppendLies
namespace Go.Proofs.YthdjkenhkedjjaaGreat
open Go.RowKit
end Go.Proofs.YthdjkenhkedjjaaGreat

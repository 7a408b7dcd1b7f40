/- Contracts: reduct.Rounds$1. -/
import Derived.Test.YtceokdbcglbclaaGreatG4
import Derived.Test.YtceokdbcglbclaaGreatG1
import Derived.Test.YtceokdbcglbclaaGreatG2
import Derived.Deep.RegionHeldLaw
import Derived.Deep.AppendLies
namespace Go.Proofs.YtceokdbcglbclaaGreat
open Go.RowKit
end Go.Proofs.YtceokdbcglbclaaGreat

/- The law StableRenamed, plain half. -/
import Derived.Test.YtdkjanbfheehoaaGreatGN
import Derived.Test.YtdkjanbfheehoaaGreatGK
import Derived.Test.YtdkjanbfheehoaaGreatGL
namespace Go.Proofs.YtdkjanbfheehoaaGreat
open Go.RowKit

end Go.Proofs.YtdkjanbfheehoaaGreat

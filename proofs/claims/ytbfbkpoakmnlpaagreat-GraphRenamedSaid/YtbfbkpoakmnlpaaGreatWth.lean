/- The function with of law 19: a program of n unnamed atoms and the given rules. -/
import Derived.Test.YtbfbkpoakmnlpaaGreatG6
import Derived.Test.YtbfbkpoakmnlpaaGreatG5
namespace Go.Proofs.YtbfbkpoakmnlpaaGreat
open Go.RowKit
end Go.Proofs.YtbfbkpoakmnlpaaGreat

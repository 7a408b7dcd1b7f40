/- ReductModel (plain): what the law says of the reduct, in one place. -/
import Derived.Test.YthdjkenhkedjjaaGreatWth
import Derived.Test.YthdjkenhkedjjaaGreatG4
namespace Go.Proofs.YthdjkenhkedjjaaGreat
open Go.RowKit
theorem valid_n {p : GProg} (h : validE p = 0) : 0 ≤ p.n := (namedB_n (validE_is h).named).1
end Go.Proofs.YthdjkenhkedjjaaGreat

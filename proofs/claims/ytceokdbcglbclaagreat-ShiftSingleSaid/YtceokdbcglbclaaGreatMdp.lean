/- ReductModel (plain): what the law says of the reduct, in one place. -/
import Derived.Test.YtceokdbcglbclaaGreatWth
import Derived.Test.YtceokdbcglbclaaGreatG4
namespace Go.Proofs.YtceokdbcglbclaaGreat
open Go.RowKit
theorem valid_n {p : GProg} (h : validE p = 0) : 0 ≤ p.n := (namedB_n (validE_is h).named).1
theorem check_of {p : GProg} {m : List Int} (hv : validE p = 0) (hm : incB p.n m = true) : checkE p m = 0 := by
 unfold checkE; rw [hv,hm]; rfl
end Go.Proofs.YtceokdbcglbclaaGreat

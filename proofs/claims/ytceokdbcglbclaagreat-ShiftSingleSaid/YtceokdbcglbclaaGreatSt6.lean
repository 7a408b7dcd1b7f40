/- Stable models (plain): All sorts the stable ones among all subsets. -/
import Derived.Test.YtceokdbcglbclaaGreatG5
namespace Go.Proofs.YtceokdbcglbclaaGreat
theorem pair_nodup2 {m : List Int} (h : m.Pairwise (· < ·)) : m.Nodup := h.imp fun hab e => by omega
end Go.Proofs.YtceokdbcglbclaaGreat

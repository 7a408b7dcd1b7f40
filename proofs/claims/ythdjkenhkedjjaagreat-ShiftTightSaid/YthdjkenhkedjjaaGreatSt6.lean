/- Stable models (plain): All sorts the stable ones among all subsets. -/
import Derived.Test.YthdjkenhkedjjaaGreatG5
namespace Go.Proofs.YthdjkenhkedjjaaGreat
theorem pair_nodup2 {m : List Int} (h : m.Pairwise (· < ·)) : m.Nodup := h.imp fun hab e => by omega
end Go.Proofs.YthdjkenhkedjjaaGreat

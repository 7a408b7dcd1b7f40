/- Contracts: reduct.Rounds (where the rules are not definite). -/
import Derived.Test.YthdjkenhkedjjaaGreatRd4
import Derived.Test.YthdjkenhkedjjaaGreatG3
import Derived.BigRegion
namespace Go.Proofs.YthdjkenhkedjjaaGreat
open Go.RowKit
theorem blk_new {w : World} {g : Nat} (hg : w.heap.size = g) (t : TypeId) (cs : Array Value) : Blk (w.alloc (.cells cs t)) g t cs := hg ▸ Blk.new w t cs
end Go.Proofs.YthdjkenhkedjjaaGreat

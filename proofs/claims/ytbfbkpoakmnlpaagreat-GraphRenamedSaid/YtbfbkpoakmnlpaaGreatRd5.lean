/- Contracts: reduct.Rounds (where the rules are not definite). -/
import Derived.Test.YtbfbkpoakmnlpaaGreatRd4
import Derived.Test.YtbfbkpoakmnlpaaGreatG3
import Derived.BigRegion
namespace Go.Proofs.YtbfbkpoakmnlpaaGreat
open Go.RowKit
theorem blk_new {w : World} {g : Nat} (hg : w.heap.size = g) (t : TypeId) (cs : Array Value) : Blk (w.alloc (.cells cs t)) g t cs := hg ▸ Blk.new w t cs
end Go.Proofs.YtbfbkpoakmnlpaaGreat

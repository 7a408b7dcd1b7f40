/- A contract of the shelf laid at this dump (what the shelf's own tool lay-plain printed). -/
import Derived.Shelf.Spec.SlicesInsertGrow
import Derived.Ground.Names2Prog
import Derived.Test.YthdjkenhkedjjaaGreatProg
namespace Go.Proofs
open Go.Shelf
end Go.Proofs

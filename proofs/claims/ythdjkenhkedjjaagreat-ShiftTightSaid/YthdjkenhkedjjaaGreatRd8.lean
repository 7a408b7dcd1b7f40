/- Contracts: reduct.positive. -/
import Derived.Test.YthdjkenhkedjjaaGreatG3
import Derived.Test.YthdjkenhkedjjaaGreatRd5
import Derived.Test.YthdjkenhkedjjaaGreatRd7
import Derived.Deep.RegionHeldLaw
import Derived.Deep.AppendLies
namespace Go.Proofs.YthdjkenhkedjjaaGreat
open Go.RowKit
def Frs (n : Nat) (A : Option Addr) (l : Nat) : Prop := 0 < l → ∀ ad,A = some ad → n ≤ ad.block
theorem Frs.nil (n : Nat) (A : Option Addr) : Frs n A 0 := fun h => absurd h (by simp)
theorem Frs.mono {n m : Nat} {A : Option Addr} {l : Nat} (h : Frs n A l) (hm : m ≤ n) : Frs m A l := fun h0 ad e => Nat.le_trans hm (h h0 ad e)
theorem OwnI.fresh {w : World} {base : Nat} {A : Option Addr} {l c : Nat} {xs : List Int} (h : OwnI w base (.slice A l c) l xs) : Frs base A l := fun h0 ad e => by
 obtain ⟨g,cap,e2,hb,_⟩ := World.ownsRow.form h.2 h0
 cases e2; cases e; exact hb
theorem info_rule : (Tryz.prog.info? 42).map (·.size) = some 6 := by kernel_rfl
abbrev ruleV (r : GRule) (h b w : Value) : Value := .agg #[.bool r.choice,h,.bool r.sum,.int .i64 r.bound,b,w]
end Go.Proofs.YthdjkenhkedjjaaGreat

/- Contracts: reduct.Body (for any rule). -/
import Derived.Test.YtbfbkpoakmnlpaaGreatG4
import Derived.Deep.RegionWith
namespace Go.Proofs.YtbfbkpoakmnlpaaGreat
open Go.RowKit
theorem SlIs.all64 {w : World} {A : Option Addr} {l c : Nat} {xs : List Int} (h : SlIs intR w A l c xs) : ∀ x ∈ xs,I64 x := fun x hx => by
 obtain ⟨k,hk⟩ := List.getElem?_of_mem hx
 exact (h.int hk).choose_spec.choose_spec.2.2.2
end Go.Proofs.YtbfbkpoakmnlpaaGreat

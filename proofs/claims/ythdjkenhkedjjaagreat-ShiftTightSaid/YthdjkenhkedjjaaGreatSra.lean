/- Laws for the walk of graph.sorted: the edges between comps, one by one; what the arrays hold. -/
import Derived.Test.YthdjkenhkedjjaaGreatGR
import Derived.Test.YthdjkenhkedjjaaGreatCpn
namespace Go.Proofs.YthdjkenhkedjjaaGreat
open Go.RowKit
theorem GrowI.keptO {w w' : World} {base ub n : Nat} {U : Nat → List Int} {us : Nat → Value} {ls : Nat → Nat} {S : List Nat} (h : GrowI w base ub n U us ls) (hk : Kept S w w') (hu : ub ∉ S) (hS : ∀ a,a < n → ∀ k ∈ S,(us a).ownBlock ≠ some k) : GrowI w' base ub n U us ls :=
 ⟨hk.blk h.blk hu,fun a ha => (h.own a ha).keptS hk (fun k hq hm => hS a ha k hm hq),h.ne⟩
structure SrS (w : World) (cA : Option Addr) (cl cc c3 ub nb wb B : Nat) (at_ : List Int) (W : World) (nd : List Int) (U : Nat → List Int) (us : Nat → Value) (ls : Nat → Nat) : Prop where
 bc : Blk W c3 61 #[.slice cA cl cc]
 ba : Blk W ub 3 (intC at_)
 bn : Blk W nb 3 (intC nd)
 gr : GrowI W B wb cl U us ls
 bel : Below w.heap.size w W
 sz : B ≤ W.heap.size
 lo : (w.heap.size ≤ c3 ∧ c3 < ub) ∧ (ub < nb ∧ ub < wb) ∧ (nb < B ∧ wb < B) ∧ nb ≠ wb
section
variable {w : World} {cA : Option Addr} {cl cc c3 ub nb wb B : Nat} {at_ : List Int} {W W' : World} {nd : List Int} {U : Nat → List Int} {us : Nat → Value} {ls : Nat → Nat}
theorem SrS.ext (h : SrS w cA cl cc c3 ub nb wb B at_ W nd U us ls) (hb : Below W.heap.size W W') : SrS w cA cl cc c3 ub nb wb B at_ W' nd U us ls :=
 ⟨h.bc.bel hb,h.ba.bel hb,h.bn.bel hb,h.gr.bel hb,bel_trans h.bel hb,Nat.le_trans h.sz hb.size,h.lo⟩
theorem SrS.kept (h : SrS w cA cl cc c3 ub nb wb B at_ W nd U us ls) {S : List Nat} (hk : Kept S W W') (hS : ∀ k ∈ S,B ≤ k ∧ ∀ a,a < cl → (us a).ownBlock ≠ some k) : SrS w cA cl cc c3 ub nb wb B at_ W' nd U us ls := by
 obtain ⟨⟨l1,l2⟩,⟨l3,l4⟩,⟨l5,l6⟩,l7⟩ := h.lo
 have off : ∀ k,k < B → k ∉ S := fun k hk hm => by have := (hS k hm).1; omega
 exact ⟨hk.blk h.bc (off _ (by omega)),hk.blk h.ba (off _ (by omega)),hk.blk h.bn (off _ l5),h.gr.keptO hk (off _ l6) (fun a ha k hm => (hS k hm).2 a ha),Kept.below h.bel hk h.bel.size (fun k hm => by have := (hS k hm).1; omega),Nat.le_trans h.sz hk.size,h.lo⟩
theorem SrS.app (h : SrS w cA cl cc c3 ub nb wb B at_ W nd U us ls) {a : Nat} (ha : a < cl) {v' : Value} {l' : Nat} {xs : List Int} (ho : OwnI W' B v' l' xs) (hg : W.grownBy W' (us a).ownBlock) (hv : ∀ k,v'.ownBlock = some k → (us a).ownBlock = some k ∨ W.heap.size ≤ k) :
  SrS w cA cl cc c3 ub nb wb B at_ (W'.setCell ⟨wb,a,none⟩ v') nd (updG U a xs) (fun j => if j = a then v' else us j) (fun j => if j = a then l' else ls j) := by
 obtain ⟨⟨l1,l2⟩,⟨l3,l4⟩,⟨l5,l6⟩,l7⟩ := h.lo
 have hlow : ∀ k,k < B → some k ≠ (us a).ownBlock := fun k hk e => by have := ((h.gr.own a ha).2.lt k e.symm).1; omega
 have hb : Below w.heap.size w W' := bel_grown h.bel hg h.bel.size (fun k hk => by have := ((h.gr.own a ha).2.lt k hk).1; omega)
 exact ⟨(h.bc.grown hg (hlow _ (by omega))).far (show c3 ≠ wb by omega) _,(h.ba.grown hg (hlow _ (by omega))).far (show ub ≠ wb by omega) _,(h.bn.grown hg (hlow _ (by omega))).far (show nb ≠ wb by omega) _,h.gr.app l6 ha ho hg hv,
  Kept.below hb ((Kept.refl [wb] W').set (.inl (by simp)) _) hb.size (by simp; omega),by have := h.sz; have := hg.size; simp [World.setCell]; omega,h.lo⟩
end
end Go.Proofs.YthdjkenhkedjjaaGreat

/- Contract: graph.sorted. -/
import Derived.Test.YthdjkenhkedjjaaGreatSra
namespace Go.Proofs.YthdjkenhkedjjaaGreat
open Go.RowKit
def RowAt (w3 : World) (n : Nat) (w' : World) (u : Value) : Prop := ∃ q,u = .slice (some ⟨q,0,none⟩) n n ∧ w3.heap.size ≤ q ∧ Blk w' q 23 (valCells n fun _ => .slice none 0 0)
theorem RowAt.bel {w3 w' v : World} {n : Nat} {u : Value} (h : RowAt w3 n w' u) (hb : Below w'.heap.size w' v) : RowAt w3 n v u := by
 obtain ⟨q,e,h1,h2⟩ := h; exact ⟨q,e,h1,h2.bel hb⟩
theorem RowAt.new {w3 w' : World} {n : Nat} (h : w3.heap.size ≤ w'.heap.size) : RowAt w3 n (w'.alloc (.cells (valCells n fun _ => .slice none 0 0) 23)) (.slice (some ⟨w'.heap.size,0,none⟩) n n) := ⟨_,rfl,h,blk_new rfl _ _⟩
end Go.Proofs.YthdjkenhkedjjaaGreat

/- Small lemmas: an element of one int, slices off written blocks. -/
import Derived.Test.YthdjkenhkedjjaaGreatGS
import Derived.Test.YthdjkenhkedjjaaGreatRd8
import Derived.Test.YthdjkenhkedjjaaGreatGZ
import Derived.Test.YthdjkenhkedjjaaGreatG2
import Derived.Test.YthdjkenhkedjjaaGreatG5
namespace Go.Proofs.YthdjkenhkedjjaaGreat
open Go.RowKit
theorem sl_one' {W : World} {H : Nat} {y : Int} (h : Blk W H 3 #[.int .i64 y]) (hy : I64 y) : SlIs intR W (some ⟨H,0,none⟩) 1 1 [y] := by
 refine ⟨rfl,Nat.le_refl _,⟨by unfold maxLen; omega,by omega⟩,fun _ => ⟨_,rfl,h.lt,fun i x hx => ?_⟩⟩
 match i,hx with
 | 0,hx =>
  simp at hx; subst hx
  refine ⟨[.int .i64 y],⟨rfl,hy⟩,fun j u hu => ?_⟩
  match j,hu with
  | 0,hu => simp at hu; subst hu; rw [add_none]; exact h.cell 0
  | j + 1,hu => simp at hu
 | i + 1,hx => simp at hx
theorem off_before {w0 : World} {A : Option Addr} {l c : Nat} {xs : List Int} (h : SlIs intR w0 A l c xs) {T : List Nat} (hT : ∀ k ∈ T,w0.heap.size ≤ k) : Off T A l := fun h0 ad e hm => by
 have h2 := h.blk_lt h0 e
 have := hT _ hm; omega
theorem RowO.fresh {α : Type} {R : Rep α} {e : TypeId} {S : List Nat} {B : Nat} {W : World} {A : Option Addr} {l c : Nat} {xs : List α} (h : RowO R e S B W (.slice A l c) xs) : Frs B A xs.length := fun h0 ad ea => by
 obtain ⟨_,cs,h2,_⟩ := h
 obtain ⟨g,cap,e2,hb,_⟩ := World.ownsRow.form h2 h0
 cases e2; cases ea; exact hb
end Go.Proofs.YthdjkenhkedjjaaGreat

/- Several texts in one: Bsf, Ows, Sr1. -/
import Derived.Test.YthdjkenhkedjjaaGreatG3
import Derived.Test.YthdjkenhkedjjaaGreatInsi
import Derived.Test.YthdjkenhkedjjaaGreatCpt
import Derived.Shelf.Spec.SlicesInsertGrow
import Derived.Test.YthdjkenhkedjjaaGreatGY
namespace Go.Proofs.YthdjkenhkedjjaaGreat
open Go.RowKit
end Go.Proofs.YthdjkenhkedjjaaGreat
namespace Go.Proofs.YthdjkenhkedjjaaGreat
open Go.RowKit Go.Shelf
def OwnO (W : World) (B : Nat) (v : Value) (xs : List Int) : Prop := (v = .slice none 0 0 ∧ xs = []) ∨
 ∃ g o cap cur,v = .slice (some ⟨g,o,none⟩) xs.length cap ∧ B ≤ g ∧ Blk W g 3 cur ∧ xs.length ≤ cap ∧ cap ≤ 9223372036854775807 ∧ o + cap ≤ cur.size ∧ ∀ i x,xs[i]? = some x → cur[o + i]? = some (.int .i64 x)
theorem OwnO.nil (W : World) (B : Nat) : OwnO W B (.slice none 0 0) [] := .inl ⟨rfl,rfl⟩
theorem OwnO.keptS {W W' : World} {B : Nat} {v : Value} {xs : List Int} {S : List Nat} (h : OwnO W B v xs) (hk : Kept S W W') (hS : ∀ k,v.ownBlock = some k → k ∉ S) : OwnO W' B v xs := by
 rcases h with h | ⟨g,o,cap,cur,rfl,h1,h2,h3⟩
 ·exact .inl h
 ·exact .inr ⟨g,o,cap,cur,rfl,h1,hk.blk h2 (hS g rfl),h3⟩
theorem OwnO.bel {W W' : World} {B : Nat} {v : Value} {xs : List Int} (h : OwnO W B v xs) (hb : Below W.heap.size W W') : OwnO W' B v xs := h.keptS (Kept.of_below hb []) (by simp)
theorem OwnO.lt {W : World} {B : Nat} {v : Value} {xs : List Int} (h : OwnO W B v xs) {k : Nat} (hk : v.ownBlock = some k) : B ≤ k ∧ k < W.heap.size := by
 rcases h with ⟨rfl,-⟩ | ⟨g,o,cap,cur,rfl,h1,h2,h3⟩
 ·cases hk
 ·have e : g = k := by simpa [Value.ownBlock] using hk
  subst e
  exact ⟨h1,h2.lt⟩
theorem OwnO.sl {W : World} {B : Nat} {v : Value} {xs : List Int} (h : OwnO W B v xs) (hs : xs.length ≤ 17592186044416) (h64 : ∀ x ∈ xs,I64 x) : ∃ A c,v = .slice A xs.length c ∧ SlIs intR W A xs.length c xs := by
 rcases h with ⟨rfl,rfl⟩ | ⟨g,o,cap,cur,rfl,h1,h2,h3,h4,h5,h6⟩
 ·exact ⟨none,0,rfl,SlIs.nil _ _⟩
 ·refine ⟨_,cap,rfl,rfl,h3,⟨h4,hs⟩,fun _ => ⟨_,rfl,h2.lt,fun i x hx => ⟨[.int .i64 x],⟨rfl,h64 x (List.mem_of_getElem? hx)⟩,fun j u hu => ?_⟩⟩⟩
  match j,hu with
  | 0,hu =>
   simp at hu; subst hu
   rw [add_none]
   simp only [intR,Nat.mul_one,Nat.add_zero]
   rw [h2.cell]; exact h6 i x hx
  | j + 1,hu => simp at hu
theorem OwnO.tail {W : World} {B g o l cap : Nat} {x : Int} {xs : List Int} (h : OwnO W B (.slice (some ⟨g,o,none⟩) l cap) (x :: xs)) (hc : 1 < cap) : OwnO W B (.slice (some ⟨g,o + 1,none⟩) xs.length (cap - 1)) xs := by
 rcases h with ⟨e,-⟩ | ⟨g',o',cap',cur,e,h1,h2,h3,h4,h5,h6⟩
 ·cases e
 ·cases e
  rw [List.length_cons] at h3
  exact .inr ⟨g,o + 1,cap - 1,cur,rfl,h1,h2,by omega,by omega,by omega,fun i y hy => by
   have := h6 (i + 1) y (by simpa using hy)
   rwa [show o + 1 + i = o + (i + 1) by omega]⟩
end Go.Proofs.YthdjkenhkedjjaaGreat
namespace Go.Proofs.YthdjkenhkedjjaaGreat
open Go.RowKit
theorem OwnO.shape {W : World} {B : Nat} {v : Value} {xs : List Int} (h : OwnO W B v xs) : ∃ A c,v = .slice A xs.length c := by
 rcases h with ⟨rfl,rfl⟩ | ⟨g,o,cap,cur,rfl,h1⟩
 ·exact ⟨_,_,rfl⟩
 ·exact ⟨_,_,rfl⟩
end Go.Proofs.YthdjkenhkedjjaaGreat

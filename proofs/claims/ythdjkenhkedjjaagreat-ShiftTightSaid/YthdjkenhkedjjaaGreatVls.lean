/- Contracts: slices.Values, slices.AppendSeq, slices.Collect and slices.Sorted over ints. -/
import Derived.Test.YthdjkenhkedjjaaGreatSrti
import Derived.Test.YthdjkenhkedjjaaGreatGZ
import Derived.OwnWalkIn
import Derived.TacticsInMore
import Derived.LoopNIn
import Derived.LoopIn
import Derived.Shelf.Abstract
import Derived.Sort.OwnSortedInts
import Derived.Shelf.Slices.In.SortNone
namespace Go.Proofs.YthdjkenhkedjjaaGreat
open Go.RowKit Go.Shelf
attribute [local go_sem] Oper.semAt_some
theorem sortI_any {wr : World} {base : Nat} {v : Value} {lv : Nat} {xs : List Int} (h : OwnI wr base v lv xs) (hlv : lv ≤ 17592186044416) :
  Calls Tryz.prog 103 #[v] wr fun e w' => e = .returned (.tuple #[]) ∧ OwnI w' base v lv (xs.mergeSort fun x y => decide (x ≤ y)) ∧ wr.grownBy w' v.ownBlock := by
 obtain ⟨hl,hrow⟩ := h
 have hrow2 := hrow
 rcases hrow.2 with ⟨rfl,h0⟩ | ⟨g,cap,cur,rfl,hb,hh,hlc,hcm,hcs,htk⟩
 ·have hx : xs = [] := List.eq_nil_of_length_eq_zero (by rw [← hl]; exact h0)
  subst hx
  refine (Any.slices_Sort_int_none (P := Tryz.prog) (ρ := sortI_ren) { sortI with } none 0 wr).mono ?_
  rintro e w' ⟨rfl,rfl⟩
  exact ⟨rfl,⟨by simpa using hl,by simpa using hrow2⟩,grown_refl _ _⟩
 ·subst hl
  refine (Any.slices_Sort_int (P := Tryz.prog) (ρ := sortI_ren) { sortI with } g 0 cap xs wr (holds_of_blockI hh (by simpa using htk)) (Array.getElem?_eq_some_iff.1 hh).1 (by omega)).mono ?_
  rintro e w' ⟨rfl,n,os,rfl⟩
  refine ⟨rfl,⟨by simp,?_⟩,grownBy_sortedI _⟩
  exact ownsRow_sortedI (by simp) hb hh hlc hcm hcs
def GoodI (_ : List Nat) (x : Int) (args : Array Value) (_ : World) : Prop := args = #[.int .i64 x] ∧ I64 x
def SeqI (w : World) (M : List Nat) (pre : List Int) (W : World) : Prop := ∃ v,M = w.heap.size :: v.ownBlock.toList ∧ Blk W w.heap.size 23 #[v] ∧ OwnI W (w.heap.size + 1) v pre.length pre ∧ (∀ x ∈ pre,I64 x) ∧ Below w.heap.size w W
theorem ownI_keptS {W W' : World} {base : Nat} {v : Value} {l : Nat} {xs : List Int} {S : List Nat} (h : OwnI W base v l xs) (hk : Kept S W W') (hne : ∀ k,v.ownBlock = some k → k ∉ S) : OwnI W' base v l xs := ⟨h.1,ownsRow_keptS h.2 hk hne⟩
theorem ownI_blk {W : World} {base : Nat} {v : Value} {l : Nat} {xs : List Int} (h : OwnI W base v l xs) {k : Nat} (hv : v.ownBlock = some k) : ∃ cs : Array Value,W.heap[k]? = some (.cells cs 3 (0,0)) := by
 rcases h.2.2 with ⟨rfl,_⟩ | ⟨g,cap,cur,rfl,_,hh,_⟩
 ·simp [Value.ownBlock] at hv
 ·have e : g = k := by simpa [Value.ownBlock] using hv
  subst e
  exact ⟨cur,hh⟩
theorem SeqI.bel {w : World} {M : List Nat} {pre : List Int} {A B : World} (h : SeqI w M pre A) (hb : Below A.heap.size A B) : SeqI w M pre B := by
 obtain ⟨v,e,h1,h2,h4,h3⟩ := h
 exact ⟨v,e,h1.bel hb,h2.bel hb,h4,bel_trans h3 hb⟩
theorem SeqI.keep {w : World} {M : List Nat} {pre : List Int} {A B : World} {k : Nat} (hw : w.heap.size ≤ k) (h : SeqI w M pre A) (hn : ∀ o,A.heap[k]? = some o → o.isCells = false) (hk : Kept [k] A B) : SeqI w M pre B := by
 obtain ⟨v,e,h1,h2,h4,h3⟩ := h
 refine ⟨v,e,(hk.blk h1 (by have := blk_ne h1 hn; simp; omega)),ownI_keptS h2 hk (fun q hq hm => ?_),h4,Kept.below h3 hk h3.size (fun q hq => by simp at hq; omega)⟩
 simp at hm; subst hm
 obtain ⟨cs,hc⟩ := ownI_blk h2 hq
 have := hn _ hc
 cases this
end Go.Proofs.YthdjkenhkedjjaaGreat

/- Vls -/
import Derived.Test.YthdjkenhkedjjaaGreatSrti
import Derived.Test.YthdjkenhkedjjaaGreatGZ
import Derived.OwnWalkIn
import Derived.TacticsInMore
import Derived.LoopNIn
import Derived.LoopIn
import Derived.Shelf.Abstract
import Derived.Sort.OwnSortedInts
import Derived.Shelf.Slices.In.SortNone
namespace Go.Proofs.YthdjkenhkedjjaaGreat
open Go.RowKit Go.Shelf
attribute [local go_sem] Oper.semAt_some
theorem sortI_any {wr:World}{base:Nat}{v:Value}{lv:Nat}{xs:LI}(h:OwnI wr base v lv xs)(hlv:lv≤17592186044416):
  Calls Tryz.prog 103 #[v] wr fun e w'=>e=.returned (.tuple #[])∧OwnI w' base v lv (xs.mergeSort fun x y=>decide (x≤y))∧wr.grownBy w' v.ownBlock:=by
 obtain⟨hl,hrow⟩:=h
 have hrow2:=hrow;rcases hrow.2 with⟨rfl,h0⟩ | ⟨g,cap,cur,rfl,hb,hh,hlc,hcm,hcs,htk⟩
 ·have hx:xs=[]:=List.eq_nil_of_length_eq_zero (by rw[← hl];exact h0);subst hx
  refine(Any.slices_Sort_int_none (P:=Tryz.prog) (ρ:=sortI_ren) { sortI with } none 0 wr).mono ?_
  rintro e w' ⟨rfl,rfl⟩
  exact⟨rfl,⟨by simpa using hl,by simpa using hrow2⟩,grown_refl _ _⟩
 ·subst hl
  refine(Any.slices_Sort_int (P:=Tryz.prog) (ρ:=sortI_ren) { sortI with } g 0 cap xs wr (holds_of_blockI hh (by simpa using htk)) (Array.getElem?_eq_some_iff.1 hh).1 (by omega)).mono ?_
  rintro e w' ⟨rfl,n,os,rfl⟩
  refine⟨rfl,⟨by simp,?_⟩,grownBy_sortedI _⟩
  exact ownsRow_sortedI (by simp) hb hh hlc hcm hcs
def GoodI (_:LN)(x:Int)(args:Array Value)(_:World):Prop:=args=#[.int .i64 x]∧I64 x
theorem ownI_keptS {W W':World}{base:Nat}{v:Value}{l:Nat}{xs:LI}{S:LN}(h:OwnI W base v l xs)(hk:Kept S W W')(hne:∀k,v.ownBlock=some k→k∉S):OwnI W' base v l xs:=⟨h.1,ownsRow_keptS h.2 hk hne⟩
theorem ownI_blk {W:World}{base:Nat}{v:Value}{l:Nat}{xs:LI}(h:OwnI W base v l xs){k:Nat}(hv:v.ownBlock=some k):∃cs:Array Value,W.heap[k]? = some (.cells cs 3 (0,0)):=by
 rcases h.2.2 with⟨rfl,_⟩ | ⟨g,cap,cur,rfl,_,hh,_⟩
 ·simp[Value.ownBlock]at hv
 ·have e:g=k:=by simpa[Value.ownBlock]using hv
  subst e
  exact⟨cur,hh⟩

/- Srw -/
import Derived.Test.YthdjkenhkedjjaaGreatGZ
namespace Go.Proofs.YthdjkenhkedjjaaGreat
open Go.RowKit
theorem info_ints:(Tryz.prog.info? 23).map (fun i=>(i.zero,i.size,i.bytes))=some (some (.slice none 0 0),1,24):=by kernel_rfl
theorem appL {w:World}{base:Nat}{v:Value}{l:Nat}{cs:List Value}(h:w.ownsRow base 23 1 v l cs)(A:OA)(m c:Nat)(hs:l<1099511627776)(hb:base≤w.heap.size)(ty:TypeId):
  ∃v' w',(Builtin.append_ #[61,61] ty #[v,.slice (some ⟨w.heap.size,0,none⟩) 1 1]).run Tryz.prog (w.alloc (.cells #[.slice A m c] 23))=.ok v' w'∧w'.ownsRow base 23 1 v' (l+1) (cs++[.slice A m c])∧w.grownBy w' v.ownBlock ∧
   (∀k,v'.ownBlock=some k→v.ownBlock=some k∨w.heap.size≤k):=by
 obtain⟨i0,hi0,hz0,hz1,hz2⟩:=info_parts info_ints
 obtain⟨v',w',hrun,h2,h3,_,h5⟩:=run_append_own_at (P:=Tryz.prog) (w.alloc (.cells #[.slice A m c] 23)) base 61 ty 23 i0 _ 1 24 Tryz.underlying61 hi0 hz0 hz1 hz2 rfl (by omega) v l _ (h.alloc _) ⟨w.heap.size,0,none⟩ 1 1 [.slice A m c] rfl
  (by intro j u hj;match j,hj with
    |0,hj=>simp at hj;subst hj;simp[Addr.add]
    |j+1,hj=>simp at hj) (by simp[Value.oneCell']) (by unfold maxLen;omega) (by omega) (by simp;omega)
 refine⟨v',w',hrun,h2,⟨h3.os,h3.tape,h3.output,Nat.le_trans (by simp) h3.size,fun k hk hne=>?_⟩,fun k hk=>?_⟩
 ·rw[h3.block k (by simp;omega) hne];exact Below.heap_alloc w _ k hk
 ·rcases h5 with h5 | h5 <;> rw[h5]at hk
  ·exact .inl hk
  ·simp at hk;exact .inr (by omega)
def SetRow (W:World)(base:Nat)(v:Value)(cs:List Value)(M:LN)(pre:List (LI)):Prop:=
 W.ownsRow base 23 1 v pre.length cs∧∀(i:Nat) (x:LI),pre[i]? = some x→∃(A:OA) (l c:Nat),cs[i]? = some (Value.slice A l c)∧SlIs intR W A l c x∧Off M A l
theorem SetRow.nil (W:World)(base:Nat)(M:LN):SetRow W base (.slice none 0 0) [] M []:=⟨World.ownsRow_nil W base _ _,fun i x h=>by simp at h⟩
theorem SetRow.keep {base:Nat}{v:Value}{cs:List Value}{M:LN}{pre:List (LI)}{A B:World}{k:Nat}(h:SetRow A base v cs M pre)(hn:∀o,A.heap[k]? = some o→o.isCells=false)(hk:Kept [k] A B):SetRow B base v cs M pre:=by
 obtain⟨ho,hr⟩:=h
 refine⟨ownsRow_keptS ho hk (fun q hq hm=>by simp at hm;subst hm;exact own_ne ho hn hq),fun i x hx=>?_⟩
 obtain⟨A',l,c,h1,h2,h3⟩:=hr i x hx
 exact⟨A',l,c,h1,h2.keptM hk (h2.offN hn),h3⟩
theorem SetRow.kept {base:Nat}{v:Value}{cs:List Value}{M S:LN}{pre:List (LI)}{A B:World}(h:SetRow A base v cs M pre)(hk:Kept S A B)(hS:∀k∈S,k∈M∧v.ownBlock≠some k):SetRow B base v cs M pre:=by
 obtain⟨ho,hr⟩:=h
 refine⟨ownsRow_keptS ho hk (fun q hq hm=>(hS q hm).2 hq),fun i x hx=>?_⟩
 obtain⟨A',l,c,h1,h2,h3⟩:=hr i x hx
 exact⟨A',l,c,h1,h2.keptM (hk.more fun k hm=>(hS k hm).1) h3,h3⟩
theorem SetRow.sl {W:World}{base:Nat}{v:Value}{cs:List Value}{M:LN}{pre:List (LI)}(h:SetRow W base v cs M pre)(hs:pre.length≤17592186044416):∃A c,v=.slice A pre.length c∧SlIs (slR intR) W A pre.length c pre:=
 SlIs.of_own (R:=slR intR) h.1 rfl hs (fun i x hx=>by
  obtain⟨A,l,c,h1,h2,_⟩:=h.2 i x hx
  refine⟨A,l,c,?_,h2⟩
  have hi:=(List.getElem?_eq_some_iff.1 h1).1;simp only[slR,Nat.mul_one];rw[List.drop_eq_getElem_cons hi,(List.getElem?_eq_some_iff.1 h1).2]
  rfl)
theorem SlIs.set {w:World}{A:OA}{l c:Nat}{xs:List (LI)}(h:SlIs (slR intR) w A l c xs){k:Nat}{x:LI}(hx:xs[k]? = some x):
  ∃b off A' l' c',A=some ⟨b,off,none⟩∧b<w.heap.size∧w.cell? ⟨b,off+k,none⟩=some (.slice A' l' c')∧SlIs intR w A' l' c' x:=by
 obtain⟨b,off,cs,e,hl,⟨A',l',c',rfl,hs⟩,hc⟩:=h.at_ hx
 exact⟨b,off,A',l',c',e,hl,by have:=hc 0 _ rfl;simpa[slR]using this,hs⟩
theorem SlIs.keepN {w B:World}{A:OA}{l c:Nat}{xs:List (LI)}{k:Nat}(h:SlIs (slR intR) w A l c xs)(hn:∀o,w.heap[k]? = some o→o.isCells=false)(hk:Kept [k] w B):SlIs (slR intR) B A l c xs:=by
 refine⟨h.1,h.2.1,h.2.2.1,fun h0=>?_⟩
 obtain⟨ad,e,hl,hc⟩:=h.2.2.2 h0
 refine⟨ad,e,Nat.lt_of_lt_of_le hl hk.size,fun i x hx=>?_⟩
 obtain⟨cs,⟨A',l',c',rfl,hs⟩,hcell⟩:=hc i x hx
 refine⟨[.slice A' l' c'],⟨A',l',c',rfl,hs.keptM hk (hs.offN hn)⟩,fun j u hu=>hk.cell (hcell j u hu) fun hm=>?_⟩
 have hcc:=hcell j u hu
 obtain⟨b,o,e2⟩:=addr_of_cell hcc
 rw[e2]at hcc hm
 obtain⟨ob,h1,h2⟩:=cells_of_cell hcc
 simp at hm;subst hm;rw[hn _ h1]at h2;cases h2
theorem SetRow.snoc {W V:World}{base:Nat}{v v':Value}{cs:List Value}{M M':LN}{pre:List (LI)}{x:LI}{A:OA}{l c:Nat}
  (h:SetRow W base v cs M pre) (hx:SlIs intR W A l c x) (ho:Off M A l)
  (hV:V.ownsRow base 23 1 v' (pre.length+1) (cs++[.slice A l c])) (hk:Kept M W V) (hm:∀k∈M',k∈M∨W.heap.size≤k):SetRow V base v' (cs++[.slice A l c]) M' (pre++[x]):=by
 have off:∀{A:OA} {l c:Nat} {xs:LI},SlIs intR W A l c xs→Off M A l→Off M' A l:=fun hs ho h0 ad e hq=>by
  rcases hm _ hq with h1 | h1
  ·exact ho h0 ad e h1
  ·have:=hs.blk_lt h0 e;omega
 have hcl:cs.length=pre.length:=by simpa using h.1.1
 refine⟨by simpa using hV,fun i z hz=>?_⟩
 rcases Nat.lt_trichotomy i pre.length with hi | hi | hi
 ·rw[List.getElem?_append_left hi]at hz
  obtain⟨A',l',c',h1,h2,h3⟩:=h.2 i z hz
  exact⟨A',l',c',by rw[List.getElem?_append_left (by omega)];exact h1,h2.keptM hk h3,off h2 h3⟩
 ·subst hi;simp at hz;subst hz
  exact⟨A,l,c,by rw[← hcl];simp,hx.keptM hk ho,off hx ho⟩
 ·rw[List.getElem?_eq_none (by simp;omega)]at hz;cases hz
def GatI (w:World)(B0 base:Nat)(T:List (Nat×TypeId×Array Value))(f:LI→Bool)(M:LN)(pre:List (LI))(W:World):Prop:=
 ∃v cs,M=MOf B0 v∧Blk W B0 61 #[v]∧SetRow W base v cs M (pre.filter f)∧Below w.heap.size w W∧base≤W.heap.size∧(∀t∈T,Blk W t.1 t.2.1 t.2.2∧t.1≠B0∧t.1<base)
theorem GatI.keep {w:World}{B0 base:Nat}{T:List (Nat×TypeId×Array Value)}{f:LI→Bool}{M:LN}{pre:List (LI)}{A B:World}{k:Nat}(h:GatI w B0 base T f M pre A)(hn:∀o,A.heap[k]? = some o→o.isCells=false)(hk:Kept [k] A B)(hkw:w.heap.size≤k):GatI w B0 base T f M pre B:=by
 obtain⟨v,cs,rfl,hb,hr,hw,hbs,hT⟩:=h
 exact⟨v,cs,rfl,hk.blk hb (by have:=blk_ne hb hn;simp;omega),hr.keep hn hk,Kept.below hw hk hw.size (fun q hq=>by simp at hq;omega),Nat.le_trans hbs hk.size,
  fun t ht=>⟨hk.blk (hT t ht).1 (by have:=blk_ne (hT t ht).1 hn;simp;omega),(hT t ht).2⟩⟩
theorem GatI.cells {w:World}{B0 base:Nat}{T:List (Nat×TypeId×Array Value)}{f:LI→Bool}{M:LN}{pre:List (LI)}{W:World}(h:GatI w B0 base T f M pre W):∀k∈M,∃o,W.heap[k]? = some o∧o.isCells=true:=by
 obtain⟨v,cs,rfl,hb,⟨ho,_⟩,_⟩:=h
 intro k hk;rcases MOf_mem hk with rfl | hv
 ·exact⟨_,hb,rfl⟩
 ·rcases ho.2 with⟨rfl,_⟩ | ⟨g,cap,cur,rfl,_,hg,_⟩
  ·simp[Value.ownBlock]at hv
  ·have:g=k:=by simpa[Value.ownBlock]using hv
   subst this;exact⟨_,hg,rfl⟩
theorem GatI.bel {w:World}{B0 base:Nat}{T:List (Nat×TypeId×Array Value)}{f:LI→Bool}{M:LN}{pre:List (LI)}{A B:World}(h:GatI w B0 base T f M pre A)(hb:Below A.heap.size A B):GatI w B0 base T f M pre B:=by
 have hw:=h
 obtain⟨v,cs,rfl,hb1,ho,hbw,_⟩:=hw
 exact h.keep (k:=A.heap.size) (fun o e=>by simp at e) (Kept.of_below hb _) hbw.size

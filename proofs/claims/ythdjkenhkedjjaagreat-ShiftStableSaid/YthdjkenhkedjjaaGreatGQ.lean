/- GQ -/
import Derived.Deep.AppendSrc
import Derived.Test.YthdjkenhkedjjaaGreatGM
import Derived.Test.YthdjkenhkedjjaaGreatGcl
import Derived.Test.YthdjkenhkedjjaaGreatGD
import Derived.Test.YthdjkenhkedjjaaGreatGL
set_option maxRecDepth 100000
set_option maxHeartbeats 8000000
namespace Go.Proofs.YthdjkenhkedjjaaGreat
open Go.RowKit
section
variable {P : Program} (w : World)
theorem zeros_len (z:Array Value)(m:Nat):(Builtin.zeroCells z m).toList.length=m*z.size:=by
 rw[Array.length_toList,size_zeroCells]
theorem zeros_bytes {m by_:Nat}(hm:m≤1000000)(hby:by_≤128):¬(281474976710656<(m:Int)*(by_:Int)):=by
 have h:=Int.ofNat_le.2 (Nat.mul_le_mul hm hby);rw[Int.natCast_mul]at h;omega
theorem run_zeros_room (t tn ty e:TypeId)(i:TypeInfo)(z:Value)(ht:P.underlying t=some (.slice e))(htn:P.underlying tn=some (.int .i64))(hi:P.info? e=some i)(hz:i.zero=some z)(hsz:0<i.size)
  (g n cap m:Nat) (cur:Array Value) (hg:w.heap[g]? = some (.cells cur e (0,0))) (hm:m≤1000000) (hm0:0<m) (hby:i.bytes≤128) (hroom:n+m≤cap) (hfit:n*i.size+(Builtin.zeroCells z.cells m).toList.length≤cur.size) (h1:∀u∈(Builtin.zeroCells z.cells m).toList,u.oneCell'=true):
  (Builtin.append_ #[t,tn] ty #[.slice (some ⟨g,0,none⟩) n cap,.int .i64 (m:Int)]).run P w=.ok (.slice (some ⟨g,0,none⟩) (n+m) cap) (w.setRow g (cur.toList.take (n*i.size)++(Builtin.zeroCells z.cells m).toList++cur.toList.drop (n*i.size+(Builtin.zeroCells z.cells m).toList.length)).toArray):=by
 have hst:=run_storeCells_at P g (n*i.size) e (Builtin.zeroCells z.cells m).toList 0 cur w hg (by simpa using hfit) h1;simp only[Nat.add_zero]at hst;have h2:IntKind.i64.wrap (m:Int)=(m:Int):=IntWalk.i64_in _ (by omega);have h3:¬((m:Int)<0):=(by omega);have h4:=zeros_bytes hm hby;have h5:¬(m*i.size=0):=fun h=>by rcases Nat.mul_eq_zero.1 h with h | h <;> omega
 simp[Builtin.append_,run_underlying ht,run_underlying htn,sizeOf,typeInfo,zeroValue,hi,hz,hroom,asInt,asIntOf,h2,h3,h4,h5,Addr.add_lit,hst]
theorem run_zeros_none (t tn ty e:TypeId)(i:TypeInfo)(ht:P.underlying t=some (.slice e))(htn:P.underlying tn=some (.int .i64))(hi:P.info? e=some i)(A:OA)(n cap:Nat)(hroom:n≤cap):
  (Builtin.append_ #[t,tn] ty #[.slice A n cap,.int .i64 0]).run P w=.ok (.slice A n cap) w:=by
 have h2:IntKind.i64.wrap 0=0:=IntWalk.i64_in _ (by omega)
 cases A with
 |none=>simp[Builtin.append_,run_underlying ht,run_underlying htn,sizeOf,typeInfo,hi,hroom,asInt,asIntOf,h2]
 |some a=>simp[Builtin.append_,run_underlying ht,run_underlying htn,sizeOf,typeInfo,hi,hroom,asInt,asIntOf,h2,storeCells]
theorem run_zeros_grow (t tn ty e:TypeId)(i:TypeInfo)(z:Value)(ht:P.underlying t=some (.slice e))(htn:P.underlying tn=some (.int .i64))(hi:P.info? e=some i)(hz:i.zero=some z)(hsz:0<i.size)
  (base:OA) (n cap m:Nat) (olds:List Value) (hm:m≤1000000) (hm0:0<m) (hby:i.bytes≤128) (hroom:cap<n+m)
  (hold:(Builtin.firstCells i.size n (.slice base n cap)).run P w.drew=.ok olds.toArray w.drew) (h63:((n+m:Nat):Int)≤9223372036854775807) (hfit:Builtin.nextslicecap (n+m) cap*i.bytes≤281474976710656):
  (Builtin.append_ #[t,tn] ty #[.slice base n cap,.int .i64 (m:Int)]).run P w =
   .ok (.slice (some ⟨w.heap.size,0,none⟩) (n+m) (grownCap w (n+m) cap e))
    (w.drew.alloc (.cells ((olds++(Builtin.zeroCells z.cells m).toList).toArray++Builtin.zeroCells z.cells (grownCap w (n+m) cap e-(n+m))) e)):=by
 have h2:IntKind.i64.wrap (m:Int)=(m:Int):=IntWalk.i64_in _ (by omega);have h3:¬((m:Int)<0):=(by omega);have h4:=zeros_bytes hm hby;have h5:¬(m*i.size=0):=fun h=>by rcases Nat.mul_eq_zero.1 h with h | h <;> omega
 have hn:¬(n+m≤cap):=(by omega);have h63':¬(9223372036854775807<((n:Int)+(m:Int))):=(by omega);have h48':¬(281474976710656<Builtin.nextslicecap (n+m) cap*i.bytes):=(by omega);simp[Builtin.append_,run_underlying ht,run_underlying htn,sizeOf,typeInfo,zeroValue,hi,hz,asInt,asIntOf,h2,h3,h4,h5,hn,h63',h48',Question.forced,hold,newRow,grownCap]
 congr 2
 apply Array.ext';simp[List.append_assoc]
theorem run_append_zeros_at (base:Nat)(t tn ty e:TypeId)(i:TypeInfo)(z:Value)(ht:P.underlying t=some (.slice e))(htn:P.underlying tn=some (.int .i64))(hi:P.info? e=some i)(hz:i.zero=some z)(hzs:z.cells.size=i.size)(hsz:0<i.size)(hby:i.bytes≤128)
  (h1:∀k,∀u∈(Builtin.zeroCells z.cells k).toList,u.oneCell'=true)
  (v:Value) (n:Nat) (xs:List Value) (hown:w.ownsRow base e i.size v n xs) (m:Nat) (hm:m≤1000000) (hnm:n≤1000000) (hbase:base≤w.heap.size):
  ∃v' w',(Builtin.append_ #[t,tn] ty #[v,.int .i64 (m:Int)]).run P w=.ok v' w'∧w'.ownsRow base e i.size v' (n+m) (xs++(Builtin.zeroCells z.cells m).toList)∧w.grownBy w' v.ownBlock∧(v'.ownBlock=v.ownBlock∨v'.ownBlock=some w.heap.size):=by
 have hzl:=zeros_len z.cells m;rw[hzs]at hzl;have hbytes:(n+m)*i.bytes≤140737488355328:=Nat.le_trans (Nat.mul_le_mul (show n+m≤2000000 by omega) hby) (by omega);have hlen:(xs++(Builtin.zeroCells z.cells m).toList).length=(n+m)*i.size:=by rw[List.length_append,hown.1,hzl,Nat.add_mul]
 have h63:n+m≤maxLen:=by unfold maxLen;omega
 have grown:∀(old:Nat),old<n+m→∀(row:Option Nat),
   (w.drew.alloc (.cells ((xs++(Builtin.zeroCells z.cells m).toList).toArray++Builtin.zeroCells z.cells (grownCap w (n+m) old e-(n+m))) e)).ownsRow base e i.size
    (.slice (some ⟨w.heap.size,0,none⟩) (n+m) (grownCap w (n+m) old e)) (n+m) (xs++(Builtin.zeroCells z.cells m).toList) ∧
   w.grownBy (w.drew.alloc (.cells ((xs++(Builtin.zeroCells z.cells m).toList).toArray++Builtin.zeroCells z.cells (grownCap w (n+m) old e-(n+m))) e)) row:=by
  intro old ho row;have hge:=grownCap_ge w (n+m) old e;have hcm:grownCap w (n+m) old e≤maxLen:=grownCap_le_maxLen w (n+m) old e h63
  refine⟨⟨hlen,.inr ⟨w.heap.size,_,_,rfl,hbase,heap_alloc_new w.drew _,hge,hcm,?_,?_⟩⟩,⟨rfl,rfl,rfl,by simp,fun k hk _=>Below.heap_alloc w.drew _ k hk⟩⟩
  ·rw[Array.size_append,List.size_toArray,size_zeroCells,hzs,hlen,← Nat.add_mul]
   congr 1
   omega
  ·simp only[Array.toList_append];rw[← hlen];exact List.take_left
 by_cases hm0:m=0
 ·subst hm0;have hn:(Builtin.zeroCells z.cells 0).toList=[]:=List.eq_nil_of_length_eq_zero (by rw[hzl];simp);rw[hn,List.append_nil]
  refine⟨v,w,?_,hown,⟨rfl,rfl,rfl,Nat.le_refl _,fun _ _ _=>rfl⟩,.inl rfl⟩
  rcases hown.2 with⟨rfl,rfl⟩ | ⟨g,cap,cur,rfl,hbg,hg,hnc,hcm,hcs,htake⟩
  ·exact run_zeros_none w t tn ty e i ht htn hi none 0 0 (Nat.le_refl _)
  ·exact run_zeros_none w t tn ty e i ht htn hi _ n cap hnc
 ·rcases hown.2 with⟨rfl,rfl⟩ | ⟨g,cap,cur,rfl,hbg,hg,hnc,hcm,hcs,htake⟩
  ·have hx:xs=[]:=List.eq_nil_of_length_eq_zero (by simpa using hown.1);subst hx;have hr:=run_zeros_grow (P:=P) w t tn ty e i z ht htn hi hz hsz none 0 0 m [] hm (by omega) hby (by omega) (by simp[Builtin.firstCells]) (by omega) (growslice_fits (by omega) hbytes);have hgr:=grown 0 (by omega) (Value.ownBlock (.slice none 0 0))
   exact⟨_,_,hr,hgr.1,hgr.2,.inr rfl⟩
  ·by_cases hroom:n+m≤cap
   ·have hfit:n*i.size+(Builtin.zeroCells z.cells m).toList.length≤cur.size:=(by rw[hzl,hcs,← Nat.add_mul];exact Nat.mul_le_mul_right _ hroom);have hr:=run_zeros_room (P:=P) w t tn ty e i z ht htn hi hz hsz g n cap m cur hg hm (by omega) hby hroom hfit (h1 m)
    refine⟨_,_,hr,⟨hlen,.inr ⟨g,cap,_,rfl,hbg,setRow_heap w g cur _ e _ hg,hroom,hcm,?_,?_⟩⟩,⟨rfl,rfl,rfl,by simp,fun k _ hk=>setRow_other w g k _ (fun e=>hk (by simp[Value.ownBlock,e]))⟩,Or.inl rfl⟩
    ·simp only[List.size_toArray,List.length_append,List.length_take,List.length_drop,Array.length_toList];simp only[Array.length_toList]at hfit;omega
    ·rw[htake,← hlen];exact List.take_left
   ·have holds:∀j u,xs[j]? = some u→w.cell? ((⟨g,0,none⟩:Addr).add j)=some u:=hown.cells (g:=g) rfl;have hr:=run_zeros_grow (P:=P) w t tn ty e i z ht htn hi hz hsz (some ⟨g,0,none⟩) n cap m xs hm (by omega) hby (by omega) (run_firstCells_some w.drew i.size n ⟨g,0,none⟩ n cap xs hown.1 (by simpa using holds)) (by unfold maxLen at h63;omega) (growslice_fits (by omega) hbytes);have hgr:=grown cap (by omega) (Value.ownBlock (.slice (some ⟨g,0,none⟩) n cap))
    exact⟨_,_,hr,hgr.1,hgr.2,.inr rfl⟩
end
open Go.RowKit
theorem zeroCells_one (v:Value)(m:Nat):(Builtin.zeroCells #[v] m).toList=List.replicate m v:=by
 apply List.ext_getElem
 ·rw[zeros_len];simp
 ·intro i h1 h2;rw[zeros_len]at h1;simp[Builtin.zeroCells,Nat.mod_one]
theorem RowO.zeros {W:World}{S:LN}{B:Nat}{v:Value}{xs:List ByteArray}(h:RowO strR 9 S B W v xs)(m:Nat)(hm:m≤1000000)(hx:xs.length≤1000000)(ty:TypeId):
  ∃v' w',(Builtin.append_ #[22,3] ty #[v,.int .i64 (m:Int)]).run Tryz.prog W=.ok v' w'∧RowO strR 9 S B w' v' (xs++List.replicate m ByteArray.empty)∧W.grownBy w' v.ownBlock∧(v'.ownBlock=v.ownBlock∨v'.ownBlock=some W.heap.size):=by
 obtain⟨⟨hk,hB,ho⟩,cs,h2,h3⟩:=h
 obtain⟨i0,hi0,hz0,hz1,hz2⟩:=info_parts ety_str.info
 have hz1':i0.size=1:=hz1
 obtain⟨v',w',hrun,k2,k3,k5⟩:=run_append_zeros_at (P:=Tryz.prog) W B 22 3 ty 9 i0 _ Tryz.underlying22 Tryz.underlying3 hi0 hz0 (by rw[hz1'];rfl) (by rw[hz1'];omega) (by rw[hz2];omega)
  (fun k u hu=>by
   have:(Value.string ByteArray.empty).cells=#[.string ByteArray.empty]:=rfl
   rw[this,zeroCells_one]at hu;rw[List.eq_of_mem_replicate hu];rfl) v xs.length cs (by rw[hz1'];exact h2) m hm hx hB
 rw[hz1',show (Value.string ByteArray.empty).cells=#[.string ByteArray.empty] from rfl,zeroCells_one]at k2
 refine⟨v',w',hrun,RowO.of (T:=S++ownL v) (w0:=W) ⟨⟨(Kept.refl _ _).thn (grown_kept k3) (fun q hq=>ho q (by simpa using hq)),Nat.le_trans hB k3.size,fun q hq=>?_⟩,cs++List.replicate m (.string ByteArray.empty),by rw[List.length_append,List.length_replicate];exact k2,fun i x hx=>?_⟩ (fun k hk=>.inl (List.mem_append.2 (.inl hk))),k3,k5⟩
 ·rcases k5 with h | h <;> rw[h]at hq
  ·exact ho q hq
  ·simp at hq;exact .inr (by omega)
 ·have hcl:cs.length=xs.length*1:=h2.1;rcases Nat.lt_or_ge i xs.length with hi | hi
  ·rw[List.getElem?_append_left hi]at hx
   have:=h3 i x hx
   have e1:((cs++List.replicate m (Value.string ByteArray.empty)).drop (i*strR.size)).take strR.size=(cs.drop (i*strR.size)).take strR.size:=by
    show ((cs++List.replicate m (Value.string ByteArray.empty)).drop (i*1)).take 1=(cs.drop (i*1)).take 1;rw[List.drop_append_of_le_length (by omega),List.take_append_of_le_length (by rw[List.length_drop];omega)]
   rw[e1];exact this
  ·rw[List.getElem?_append_right hi,List.getElem?_replicate]at hx
   split at hx
   ·cases hx;intro V _;show _=[Value.string ByteArray.empty]∧_
    refine⟨?_,by decide⟩
    show ((cs++List.replicate m (Value.string ByteArray.empty)).drop (i*1)).take 1=_;rw[List.drop_append,List.drop_of_length_le (by omega),List.nil_append,List.drop_replicate,List.take_replicate,hcl,show min 1 (m-(i*1-xs.length*1))=1 by omega];rfl
   ·cases hx
structure ExtS (v0:World)(sh:LI)(mn:List GMin)(N:Int)(g:Nat)(S:LN)(nv sv rv mv:Value)(ns:List ByteArray)(rs:LG)(W:World):Prop where
 bel:Below v0.heap.size v0 W
 bx:Blk W g 27 #[.int .i64 N,nv,sv,rv,mv]
 e1:Blk W (v0.heap.size+1) 27 #[.int .i64 0,.slice none 0 0,.slice none 0 0,.slice none 0 0,.slice none 0 0]
 rn:RowO strR 9 S v0.heap.size W nv ns
 rh:RowO intR 3 S v0.heap.size W sv sh
 rr:RowO ruleR 42 S v0.heap.size W rv rs
 rm:RowO minR 67 S v0.heap.size W mv mn
 gS:g∈S
 eS:v0.heap.size+1∈S
 nS:∀k,nv.ownBlock=some k→k∈S
 rS:∀k,rv.ownBlock=some k→k∈S
 ne:g≠v0.heap.size+1
 gB:v0.heap.size≤g
 lt:∀k∈S,k<W.heap.size
section
variable {v0 : World} {sh : LI} {mn : List GMin} {N : Int} {g : Nat} {S : LN} {nv sv rv mv : Value} {ns ns' : List ByteArray} {rs rs' : LG} {W W' : World}
theorem ExtS.ext (h:ExtS v0 sh mn N g S nv sv rv mv ns rs W)(hb:Below W.heap.size W W'):ExtS v0 sh mn N g S nv sv rv mv ns rs W':=
 { h with bel:=h.bel.trans (hb.mono h.bel.size),bx:=h.bx.bel hb,e1:=h.e1.bel hb,rn:=h.rn.bel hb,rh:=h.rh.bel hb,rr:=h.rr.bel hb,rm:=h.rm.bel hb,lt:=fun k hk=>Nat.lt_of_lt_of_le (h.lt k hk) hb.size }
theorem ExtS.names (h:ExtS v0 sh mn N g S nv sv rv mv ns rs W){v':Value}(hr:RowO strR 9 S v0.heap.size W' v' ns')(hg:W.grownBy W' nv.ownBlock)(hat:∀k,v'.ownBlock=some k→nv.ownBlock=some k∨W.heap.size≤k):
  ExtS v0 sh mn N g (S++ownL v') v' sv rv mv ns' rs (W'.setCell ⟨g,1,none⟩ v'):=by
 have kW:Kept (ownL nv) W W':=grown_kept hg;have kS:Kept [g] W' (W'.setCell ⟨g,1,none⟩ v'):=(Kept.refl _ _).set (.inl (by simp)) _;have n1:g∉ownL nv:=fun e=>h.rn.offBlk h.bx (by decide) (ownL_mem.1 e);have n2:v0.heap.size+1∉ownL nv:=fun e=>h.rn.offBlk h.e1 (by decide) (ownL_mem.1 e);have bx1:=kW.blk h.bx n1;have bx2:=bx1.set_ 1 v';have t1:∀{α:Type} {R:Rep α} {e:TypeId} {v:Value} {xs:List α},9≠e→RowO R e S v0.heap.size W v xs→∀k∈ownL nv,(k∈S∨W.heap.size≤k)∧v.ownBlock≠some k:=fun he hv k hk=>⟨.inl (h.nS k (ownL_mem.1 hk)),h.rn.apart hv he k (ownL_mem.1 hk)⟩
 have t2:∀k∈S++ownL v',k∈S∨W.heap.size≤k:=fun k hk=>by
  rcases List.mem_append.1 hk with h1 | h1
  ·exact .inl h1
  ·exact(hat k (ownL_mem.1 h1)).imp (h.nS k) id
 have t3:∀{α:Type} {R:Rep α} {e:TypeId} {v:Value} {xs:List α},e≠27→RowO R e S v0.heap.size W' v xs→∀k∈[g],(k∈S∨W'.heap.size≤k)∧v.ownBlock≠some k:=fun he hv k hk=>by
  simp at hk;subst hk
  exact⟨.inl h.gS,hv.offBlk bx1 he⟩
 have go:∀{α:Type} {R:Rep α} {e:TypeId} {v:Value} {xs:List α},9≠e→e≠27→RowO R e S v0.heap.size W v xs→RowO R e (S++ownL v') v0.heap.size (W'.setCell ⟨g,1,none⟩ v') v xs:=fun he1 he2 hv=>
  ((hv.more kW (t1 he1 hv) (S':=S++ownL v') (fun k hk=>(t2 k hk).imp id .inl))).more kS (fun k hk=>⟨.inl (List.mem_append.2 (.inl ((by simp at hk;subst hk;exact h.gS)))),(t3 he2 (hv.step kW (t1 he1 hv)) k hk).2⟩) (fun _ hk=>.inl hk)
 have hsz:(W'.setCell ⟨g,1,none⟩ v').heap.size=W'.heap.size:=by simp[World.setCell]
 exact⟨Kept.below (Kept.below h.bel kW h.bel.size (fun k hk=>(h.rn.lt (ownL_mem.1 hk)).1)) kS (Nat.le_trans h.bel.size hg.size) (fun k hk=>by simp at hk;subst hk;exact h.gB),bx2,kS.blk (kW.blk h.e1 n2) (by simp;exact fun e=>h.ne e.symm),
  hr.more kS (t3 (by decide) hr) (fun k hk=>by
   rcases List.mem_append.1 hk with h1 | h1
   ·exact .inl h1
   ·exact .inr (.inr (ownL_mem.1 h1))),go (by decide) (by decide) h.rh,go (by decide) (by decide) h.rr,go (by decide) (by decide) h.rm,
  List.mem_append.2 (.inl h.gS),List.mem_append.2 (.inl h.eS),fun k hk=>List.mem_append.2 (.inr (ownL_mem.2 hk)),fun k hk=>List.mem_append.2 (.inl (h.rS k hk)),h.ne,h.gB,fun k hk=>by
   rw[hsz];rcases List.mem_append.1 hk with h1 | h1
   ·exact Nat.lt_of_lt_of_le (h.lt k h1) hg.size
   ·exact(hr.lt (ownL_mem.1 h1)).2⟩
theorem ExtS.rules (h:ExtS v0 sh mn N g S nv sv rv mv ns rs W){v':Value}(hr:RowO ruleR 42 S v0.heap.size W' v' rs')(hg:W.grownBy W' rv.ownBlock)(hat:∀k,v'.ownBlock=some k→rv.ownBlock=some k∨W.heap.size≤k):
  ExtS v0 sh mn N g (S++ownL v') nv sv v' mv ns rs' (W'.setCell ⟨g,3,none⟩ v'):=by
 have kW:Kept (ownL rv) W W':=grown_kept hg;have kS:Kept [g] W' (W'.setCell ⟨g,3,none⟩ v'):=(Kept.refl _ _).set (.inl (by simp)) _;have n1:g∉ownL rv:=fun e=>h.rr.offBlk h.bx (by decide) (ownL_mem.1 e);have n2:v0.heap.size+1∉ownL rv:=fun e=>h.rr.offBlk h.e1 (by decide) (ownL_mem.1 e);have bx1:=kW.blk h.bx n1;have bx2:=bx1.set_ 3 v';have t1:∀{α:Type} {R:Rep α} {e:TypeId} {v:Value} {xs:List α},42≠e→RowO R e S v0.heap.size W v xs→∀k∈ownL rv,(k∈S∨W.heap.size≤k)∧v.ownBlock≠some k:=fun he hv k hk=>⟨.inl (h.rS k (ownL_mem.1 hk)),h.rr.apart hv he k (ownL_mem.1 hk)⟩
 have t2:∀k∈S++ownL v',k∈S∨W.heap.size≤k:=fun k hk=>by
  rcases List.mem_append.1 hk with h1 | h1
  ·exact .inl h1
  ·exact(hat k (ownL_mem.1 h1)).imp (h.rS k) id
 have t3:∀{α:Type} {R:Rep α} {e:TypeId} {v:Value} {xs:List α},e≠27→RowO R e S v0.heap.size W' v xs→∀k∈[g],(k∈S∨W'.heap.size≤k)∧v.ownBlock≠some k:=fun he hv k hk=>by
  simp at hk;subst hk
  exact⟨.inl h.gS,hv.offBlk bx1 he⟩
 have go:∀{α:Type} {R:Rep α} {e:TypeId} {v:Value} {xs:List α},42≠e→e≠27→RowO R e S v0.heap.size W v xs→RowO R e (S++ownL v') v0.heap.size (W'.setCell ⟨g,3,none⟩ v') v xs:=fun he1 he2 hv=>
  ((hv.more kW (t1 he1 hv) (S':=S++ownL v') (fun k hk=>(t2 k hk).imp id .inl))).more kS (fun k hk=>⟨.inl (List.mem_append.2 (.inl ((by simp at hk;subst hk;exact h.gS)))),(t3 he2 (hv.step kW (t1 he1 hv)) k hk).2⟩) (fun _ hk=>.inl hk)
 have hsz:(W'.setCell ⟨g,3,none⟩ v').heap.size=W'.heap.size:=by simp[World.setCell]
 exact⟨Kept.below (Kept.below h.bel kW h.bel.size (fun k hk=>(h.rr.lt (ownL_mem.1 hk)).1)) kS (Nat.le_trans h.bel.size hg.size) (fun k hk=>by simp at hk;subst hk;exact h.gB),bx2,kS.blk (kW.blk h.e1 n2) (by simp;exact fun e=>h.ne e.symm),
  go (by decide) (by decide) h.rn,go (by decide) (by decide) h.rh,hr.more kS (t3 (by decide) hr) (fun k hk=>by
   rcases List.mem_append.1 hk with h1 | h1
   ·exact .inl h1
   ·exact .inr (.inr (ownL_mem.1 h1))),go (by decide) (by decide) h.rm,
  List.mem_append.2 (.inl h.gS),List.mem_append.2 (.inl h.eS),fun k hk=>List.mem_append.2 (.inl (h.nS k hk)),fun k hk=>List.mem_append.2 (.inr (ownL_mem.2 hk)),h.ne,h.gB,fun k hk=>by
   rw[hsz];rcases List.mem_append.1 hk with h1 | h1
   ·exact Nat.lt_of_lt_of_le (h.lt k h1) hg.size
   ·exact(hr.lt (ownL_mem.1 h1)).2⟩
theorem ExtS.last (h:ExtS v0 sh mn N g S nv sv rv mv ns rs W)(cs:Array Value)(l1:ns.length≤1000000)(l2:sh.length≤1000000)(l3:rs.length≤1000000)(l4:mn.length≤1000000)(E:LN)(hE:∀q∈E,q∈S∧q<v0.heap.size):
  ∃(nA':OA) (nc':Nat) (sA':OA) (sc':Nat) (rA':OA) (rc':Nat) (mA':OA) (mc':Nat),nv=.slice nA' ns.length nc'∧sv=.slice sA' sh.length sc'∧rv=.slice rA' rs.length rc'∧mv=.slice mA' mn.length mc' ∧
   StabS strR E (W.setRow (v0.heap.size+1) cs) nA' ns.length nc' ns∧StabS intR E (W.setRow (v0.heap.size+1) cs) sA' sh.length sc' sh∧StabS ruleR E (W.setRow (v0.heap.size+1) cs) rA' rs.length rc' rs∧StabS minR E (W.setRow (v0.heap.size+1) cs) mA' mn.length mc' mn ∧
   Below v0.heap.size v0 (W.setRow (v0.heap.size+1) cs):=by
 have kR:Kept [v0.heap.size+1] W (W.setRow (v0.heap.size+1) cs):=(Kept.refl _ _).row (.inl (by simp)) _
 have go:∀{α:Type} {R:Rep α} {e:TypeId} {v:Value} {xs:List α},e≠27→RowO R e S v0.heap.size W v xs→RowO R e S v0.heap.size (W.setRow (v0.heap.size+1) cs) v xs:=fun he hv=>
  hv.step kR (fun k hk=>by simp at hk;subst hk;exact⟨.inl h.eS,hv.offBlk h.e1 he⟩)
 have st:∀{α:Type} {R:Rep α} {e:TypeId} {v:Value} {xs:List α},RowO R e S v0.heap.size (W.setRow (v0.heap.size+1) cs) v xs→∀k∈E,(k∈S∨(W.setRow (v0.heap.size+1) cs).heap.size≤k)∧v.ownBlock≠some k:=fun hv k hk=>
  ⟨.inl (hE k hk).1,fun e=>by have:=(hv.lt e).1;have:=(hE k hk).2;omega⟩
 have q1:=go (by decide) h.rn;have q2:=go (by decide) h.rh;have q3:=go (by decide) h.rr;have q4:=go (by decide) h.rm
 obtain⟨nA',nc',e1,k1⟩:=q1.stab (by omega) (st q1)
 obtain⟨sA',sc',e2,k2⟩:=q2.stab (by omega) (st q2)
 obtain⟨rA',rc',e3,k3⟩:=q3.stab (by omega) (st q3)
 obtain⟨mA',mc',e4,k4⟩:=q4.stab (by omega) (st q4)
 exact⟨nA',nc',sA',sc',rA',rc',mA',mc',e1,e2,e3,e4,k1,k2,k3,k4,Kept.below h.bel kR h.bel.size (by simp)⟩
end
open Go.RowKit Go.Shelf
def extP (p:GProg)(k:Nat)(rs:LG):GProg:={ p with n:=p.n+k,names:=p.names++List.replicate k ByteArray.empty,rules:=p.rules++rs.map normR }
theorem extend_off (p:GProg)(nA:OA)(nl nc:Nat)(sA:OA)(sl sc:Nat)(rA:OA)(rl rc:Nat)(mA:OA)(ml mc:Nat)(k:Nat)(qA:OA)(ql qc:Nat)(rs:LG)(v0 w:World)(hb0:Below v0.heap.size v0 w)(E:LN)(hE:∀q∈E,v0.heap.size≤q∧q<w.heap.size)(hp0:ProgIn v0 p nA nl nc sA sl sc rA rl rc mA ml mc)(hv:validE p=0)(hk:p.n+(k:Int)≤4000)(hsz:nl≤100000∧sl≤100000∧ml≤100000)
  (hrl:∀r∈p.rules,r.head.length≤100000∧r.body.length≤100000∧r.w.length≤100000) (hml:∀r∈p.min,r.lits.length≤100000∧r.w.length≤100000)
  (hq:SlIs ruleR w qA ql qc rs) (hqr:rl+ql≤40000) (hpre:∀r∈rs,PreRule r (p.n+k)):
  Calls Tryz.prog 30 #[.agg #[.int .i64 p.n,.slice nA nl nc,.slice sA sl sc,.slice rA rl rc,.slice mA ml mc],.int .i64 (k:Int),.slice qA ql qc] w fun e w'=>∃(nA':OA) (nl' nc':Nat) (sA':OA) (sl' sc':Nat) (rA':OA) (rl' rc':Nat) (mA':OA) (ml' mc':Nat),
   e=.returned (.tuple #[.agg #[.int .i64 (p.n+k),.slice nA' nl' nc',.slice sA' sl' sc',.slice rA' rl' rc',.slice mA' ml' mc'],.int .i64 0])∧(∀V,Kept E w' V→ProgIn V (extP p k rs) nA' nl' nc' sA' sl' sc' rA' rl' rc' mA' ml' mc')∧Below w.heap.size w w':=by
 have hp:=hp0.ext hb0;have hn0:=valid_n hv;have hn1:=(valid_ok hv).2.2;have cV:=fun W (hb:Below w.heap.size w W)=>valid_any p nA nl nc sA sl sc rA rl rc mA ml mc W (hp.ext hb);rw[hv]at cV;have hpn:=hp.n;have hqc:=hq.cap;have hqm:=hq.max;have hrc:=hp.rules.cap;have hrm:=hp.rules.max;have hbz:=hb0.size;have cC:=fun W (hb:Below w.heap.size w W) E hE=>gclone_any p nA nl nc sA sl sc rA rl rc mA ml mc v0 W (bel_trans hb0 hb) E hE hp0 hsz.1 hsz.2.1 (by omega) hsz.2.2 hrl hml;have hrlen:=hp.rules.len;have hqlen:=hq.len
 obtain⟨N,hN⟩:∃N:Int,N=p.n+k:=⟨_,rfl⟩
 rw[← hN]at hk hpre ⊢;have hN2:p.n+(k:Int)=N:=hN.symm;have hN1:p.n≤N:=(by omega);have z1:IntKind.i64.wrap (4000-p.n)=4000-p.n:=IntWalk.i64_in _ (by omega);have z2:¬4000-p.n<(k:Int):=(by omega);have z3:IntKind.i64.wrap (40000-(rl:Int))=40000-(rl:Int):=IntWalk.i64_in _ (by omega);have z4:¬40000-(rl:Int)<(ql:Int):=(by omega)
 obtain⟨W0,hW0⟩:∃W0,W0=((w.alloc (.cells #[.int .i64 p.n,.slice nA nl nc,.slice sA sl sc,.slice rA rl rc,.slice mA ml mc] 27)).alloc (.cells #[.int .i64 0,.slice none 0 0,.slice none 0 0,.slice none 0 0,.slice none 0 0] 27)):=⟨_,rfl⟩
 have hW:Blk W0 w.heap.size 27 #[.int .i64 p.n,.slice nA nl nc,.slice sA sl sc,.slice rA rl rc,.slice mA ml mc]∧Blk W0 (w.heap.size+1) 27 #[.int .i64 0,.slice none 0 0,.slice none 0 0,.slice none 0 0,.slice none 0 0]∧Below w.heap.size w W0∧W0.heap.size=w.heap.size+2:=by
  rw[hW0]
  exact⟨(blk_new rfl _ _).alloc _,blk_new (by simp) _ _,bel_trans (bel_alloc _ _) (bel_alloc _ _),by simp⟩
 obtain⟨bP,bZ,bW,hs0⟩:=hW
 have hv':=hv
 obtain⟨HP0,HB0,HE,HP,HV,HRL,HML,HQ,HPRE,CV,CC,HRLEN⟩:=Zq12 hp0 hb0 hE hp hv hrl hml hq hpre cV cC hrlen;clear hp0 hb0 hE hp hv hrl hml hq hpre cV cC hrlen
 obtain⟨HQLEN,BP,BZ,BW,HS0,HV',HN⟩:=Zq7 hqlen bP bZ bW hs0 hv' hN;clear hqlen bP bZ bW hs0 hv' hN
 go_enter Tryz.func30,Tryz.ntmps30;go_wp2_with fail;rw[← hW0];clear hW0;go_fit (CV.out _ BW.out);rintro e w1 ⟨rfl,hb1⟩;have hbw1:=bel_trans BW.out hb1;have hx1:=BP.out.bel hb1
 obtain⟨p0,p1,p2,p3,p4,p5⟩:=pcells hx1
 obtain⟨HB1,HBW1,HX1⟩:=Zq3 hb1 hbw1 hx1;clear hb1 hbw1 hx1
 go_wp2_with fail;have hsz1:=HB1.out.size
 go_fit (CC.out _ HBW1.out (w.heap.size::(w.heap.size+1)::E) (fun q hq=>by
  have h1:=HS0.out;rcases List.mem_cons.1 hq with e | hq
  ·omega
  rcases List.mem_cons.1 hq with e | hq
  ·omega
  have:=HE.out q hq;omega));rintro e w2 ⟨nA1,nc1,sA1,sc1,rA1,rc1,mA1,mc1,T,rfl,hb2,hT,hET,rn,rsh,rr,rmn⟩
 have hbw2:=bel_trans HBW1.out hb2;have bZ2:=(BZ.out.bel HB1.out).bel hb2;clear p0 p1 p2 p3 p4 p5;have hbl:=HBW1.out.size
 have hX:ExtS w p.shown p.min N w2.heap.size (w2.heap.size::T) (.slice nA1 nl nc1) (.slice sA1 sl sc1) (.slice rA1 rl rc1) (.slice mA1 ml mc1) p.names p.rules (w2.alloc (.cells #[.int .i64 N,.slice nA1 nl nc1,.slice sA1 sl sc1,.slice rA1 rl rc1,.slice mA1 ml mc1] 27)):=by
  have hbx:=bel_alloc w2 (.cells #[.int .i64 N,.slice nA1 nl nc1,.slice sA1 sl sc1,.slice rA1 rl rc1,.slice mA1 ml mc1] 27)
  have go:∀{α:Type} {R:Rep α} {e:TypeId} {v:Value} {xs:List α},RowN R e T w1.heap.size w2 v xs→RowO R e (w2.heap.size::T) w.heap.size (w2.alloc (.cells #[.int .i64 N,.slice nA1 nl nc1,.slice sA1 sl sc1,.slice rA1 rl rc1,.slice mA1 ml mc1] 27)) v xs:=fun {α R e v xs} h=>by
   have h1:RowO R e (w2.heap.size::T) w1.heap.size (w2.alloc (.cells #[.int .i64 N,.slice nA1 nl nc1,.slice sA1 sl sc1,.slice rA1 rl rc1,.slice mA1 ml mc1] 27)) v xs:=RowO.of (T:=T) (w0:=w2) (RowK.bel h hbx) (fun k hk=>by
    rcases List.mem_cons.1 hk with e | e
    ·exact .inr (by omega)
    ·exact .inl e)
   exact h1.lower hbl
  have hsz2:(w2.alloc (.cells #[.int .i64 N,.slice nA1 nl nc1,.slice sA1 sl sc1,.slice rA1 rl rc1,.slice mA1 ml mc1] 27)).heap.size=w2.heap.size+1:=(by simp)
  exact⟨bel_trans hbw2 hbx,blk_new rfl _ _,bZ2.bel hbx,go rn,go rsh,go rr,go rmn,by simp,List.mem_cons_of_mem _ (hET _ (by simp)),fun k hk=>List.mem_cons_of_mem _ (rn.own hk).1,fun k hk=>List.mem_cons_of_mem _ (rr.own hk).1,by have:=HS0.out;have:=hb2.size;omega,hbw2.size,fun k hk=>by
   rcases List.mem_cons.1 hk with e | e
   ·omega
   ·have:=(hT k e).2;omega⟩
 obtain⟨nv,w3,hrun,ro3,hg3,hat3⟩:=hX.rn.zeros k (by omega) (by have:=HP.out.names.len;omega) 22
 obtain⟨nA3,nc3,rfl,-⟩:=ro3.sl (by rw[List.length_append,List.length_replicate];have:=HP.out.names.len;omega)
 obtain⟨NL,hNL⟩:∃NL,NL=(p.names++List.replicate k ByteArray.empty).length:=⟨_,rfl⟩
 have hX3:=hX.names ro3 hg3 (fun q hq=>by
  rcases hat3 with e | e
  ·exact .inl (e ▸ hq)
  ·rw[e]at hq;injection hq with hq;exact .inr (by omega))
 have hc3:w3.cell? ⟨w2.heap.size,1,none⟩=some (.slice nA1 nl nc1):=((grown_kept hg3).blk hX.bx (fun e=>hX.rn.offBlk hX.bx (by decide) (by simpa using e))).cell 1;have hf3:w3.frozen? ⟨w2.heap.size,1,none⟩=false:=((grown_kept hg3).blk hX.bx (fun e=>hX.rn.offBlk hX.bx (by decide) (by simpa using e))).frozen 1;rw[← hNL]at hX3 hrun ro3;have hb30:=hX.bel;have hnl2:NL≤1000000:=by rw[hNL,List.length_append,List.length_replicate];have:=HP.out.names.len;omega
 have HET:=Zq1 hET;clear hb2 hT rn rsh rr rmn hbw2 hX ro3 hg3 hat3 hET bZ2 hbl hb30
 obtain⟨HRUN,HX3,HNL⟩:=Zq3 hrun hX3 hNL;clear hrun hX3 hNL
 go_wp2_with (at_builtin;refine wpList_append_run2 rfl _ _ _ _ rfl _ _ rfl rfl _ _ HRUN.out ?_);clear hc3 hf3;generalize w3.setCell ⟨w2.heap.size,1,none⟩ (.slice nA3 NL nc3)=W3 at *;go_loopw [55] (fun t wr=>∃(i:Nat) (rv:Value) (S:LN),i≤ql∧t=.int .i64 (i:Int)∧ExtS w p.shown p.min N w2.heap.size S (.slice nA3 NL nc3) (.slice sA1 sl sc1) rv (.slice mA1 ml mc1) (p.names++List.replicate k ByteArray.empty) (p.rules++(rs.take i).map normR) wr∧∀q∈E,q∈S) (fun t _=>ql-(intOf t).toNat)
 case atStart=>exact⟨0,_,_,Nat.zero_le _,rfl,by simpa using HX3.out,fun q hq=>List.mem_append.2 (.inl (List.mem_cons_of_mem _ (HET.out q (by simp[hq]))))⟩
 case round=>
  obtain⟨i,rv,S,hi,rfl,hs,hES⟩:=hrel
  have HES:=Zq1 hES;clear hES
  obtain⟨wo,rfl⟩:∃wo:World,wo=wr:=⟨_,rfl⟩
  have hL0:(p.rules++(rs.take i).map normR).length=rl+i:=by rw[List.length_append,List.length_map,List.length_take];have:=HRLEN.out;have:=HQLEN.out;omega
  obtain⟨rvA,rvc,hrv,-⟩:=hs.rr.sl (by rw[hL0];omega)
  rw[hL0]at hrv;subst hrv;have HL0:=Zq1 hL0;clear hL0
  by_cases hlt:i<ql
  ·obtain⟨r,hri,-⟩:=HQ.out.drop hlt
   obtain⟨bb,off,hA,hl,hc,bA,bl,bc,wA,wl,wc,rfl,hbl2,x0,x1,x2,x3,x4,x5,g1,g2,g3,g4⟩:=HQ.out.rule hri
   have d0:=(hs.bel.cell (World.block_lt_of_cell? _ _ x0)).trans x0;have d1:=(hs.bel.cell (World.block_lt_of_cell? _ _ x1)).trans x1;have d2:=(hs.bel.cell (World.block_lt_of_cell? _ _ x2)).trans x2;have d3:=(hs.bel.cell (World.block_lt_of_cell? _ _ x3)).trans x3;have d4:=(hs.bel.cell (World.block_lt_of_cell? _ _ x4)).trans x4;have d5:=(hs.bel.cell (World.block_lt_of_cell? _ _ x5)).trans x5;clear x0 x1 x2 x3 x4 x5;have k0:(0:Int)≤(i:Int):=(by omega);have k1:(i:Int)<(ql:Int):=(by omega);have hrin:RuleIn w r hA hl hc bA bl bc wA wl wc:=⟨g1,g2,g3,g4⟩;have hpr:=HPRE.out r (List.mem_of_getElem? hri);have hb1:=bel_alloc wo (.cells #[.bool r.choice,.slice hA hl hc,.bool r.sum,.int .i64 r.bound,.slice bA bl bc,.slice wA wl wc] 42);have b1:Blk (wo.alloc (.cells #[.bool r.choice,.slice hA hl hc,.bool r.sum,.int .i64 r.bound,.slice bA bl bc,.slice wA wl wc] 42)) wo.heap.size 42 #[.bool r.choice,.slice hA hl hc,.bool r.sum,.int .i64 r.bound,.slice bA bl bc,.slice wA wl wc]:=blk_new rfl _ _;have hs1:=hs.ext hb1;have cN:=norm_any r _ _ _ _ _ _ _ _ _ N (wo.alloc (.cells #[.bool r.choice,.slice hA hl hc,.bool r.sum,.int .i64 r.bound,.slice bA bl bc,.slice wA wl wc] 42)) (hrin.ext (bel_trans hs.bel hb1)) hpr;have q0:=hs1.bx.cell 0;clear g1 g2 g3 g4 hrin hpr hb1 hs
   obtain⟨HRI,B1,HS1,CN⟩:=Zq4 hri b1 hs1 cN;clear hri b1 hs1 cN
   go_wp2_with (refine wpList_load_row (by rfl) 42 _ (by rfl) wo.heap.size (by rfl) 42 #[.bool r.choice,.slice hA hl hc,.bool r.sum,.int .i64 r.bound,.slice bA bl bc,.slice wA wl wc] (0,0) _ B1.out Tryz.underlying42 rfl info_rule ?_);go_fit CN.out;rintro e w4 ⟨hA',hl',hc',bA',bl',bc',wA',wl',wc',he,rin,f1,f2,f3,hb4⟩;have he':e=.returned (.tuple #[.agg #[.bool r.choice,.slice hA' hl' hc',.bool r.sum,.int .i64 r.bound,.slice bA' bl' bc',.slice wA' wl' wc'],.int .i64 0]):=he;clear he;subst he';have hs4:=HS1.out.ext hb4;have hb5:=bel_alloc w4 (.cells #[.bool r.choice,.slice hA' hl' hc',.bool r.sum,.int .i64 r.bound,.slice bA' bl' bc',.slice wA' wl' wc'] 42);have b5:Blk (w4.alloc (.cells #[.bool r.choice,.slice hA' hl' hc',.bool r.sum,.int .i64 r.bound,.slice bA' bl' bc',.slice wA' wl' wc'] 42)) w4.heap.size 42 #[.bool r.choice,.slice hA' hl' hc',.bool r.sum,.int .i64 r.bound,.slice bA' bl' bc',.slice wA' wl' wc']:=blk_new rfl _ _;have hs5:=hs4.ext hb5
   have hof:∀q∈S++ownL (.slice rvA (rl+i) rvc),q<(wo.alloc (.cells #[.bool r.choice,.slice hA hl hc,.bool r.sum,.int .i64 r.bound,.slice bA bl bc,.slice wA wl wc] 42)).heap.size:=fun q hq=>by
    rcases List.mem_append.1 hq with h1 | h1
    ·exact HS1.out.lt q h1
    ·exact HS1.out.lt q (HS1.out.rS q (ownL_mem.1 h1))
   have hel:Stab ruleR (S++ownL (.slice rvA (rl+i) rvc)) (w4.alloc (.cells #[.bool r.choice,.slice hA' hl' hc',.bool r.sum,.int .i64 r.bound,.slice bA' bl' bc',.slice wA' wl' wc'] 42)) [.bool r.choice,.slice hA' hl' hc',.bool r.sum,.int .i64 r.bound,.slice bA' bl' bc',.slice wA' wl' wc'] (normR r):=
    Stab.rule (r:=normR r) (StabS.ints (rin.head.ext hb5) (f1.off hof)) rin.bound (StabS.ints (rin.body.ext hb5) (f2.off hof)) (StabS.ints (rin.wt.ext hb5) (f3.off hof))
   obtain⟨v',w5,hrun,ro,hg,hat⟩:=hs5.rr.app1 ety_rule _ _ hel (by rw[HL0.out];omega) 24
   obtain⟨vA,vc,rfl,-⟩:=ro.sl (by rw[List.length_append,HL0.out];simp;omega)
   have hX5:=hs5.rules ro hg hat;have hL1:((p.rules++(rs.take i).map normR)++[normR r]).length=rl+i+1:=(by rw[List.length_append,HL0.out];rfl);rw[hL1]at hrun hX5 hat ro;clear hL1
   have hst:(p.rules++(rs.take i).map normR)++[normR r]=p.rules++(rs.take (i+1)).map normR:=by
    rw[List.take_add_one,HRI.out,List.map_append,List.append_assoc];rfl
   rw[hst]at hX5;have hz4:(w4.alloc (.cells #[.bool r.choice,.slice hA' hl' hc',.bool r.sum,.int .i64 r.bound,.slice bA' bl' bc',.slice wA' wl' wc'] 42)).heap.size=w4.heap.size+1:=(by simp);rw[hz4]at hrun;have q3:=hs5.bx.cell 3;have hc5:w5.cell? ⟨w2.heap.size,3,none⟩=some (.slice rvA (rl+i) rvc):=((grown_kept hg).blk hs5.bx (fun e=>hs5.rr.offBlk hs5.bx (by decide) (by simpa using e))).cell 3;have hf5:w5.frozen? ⟨w2.heap.size,3,none⟩=false:=((grown_kept hg).blk hs5.bx (fun e=>hs5.rr.offBlk hs5.bx (by decide) (by simpa using e))).frozen 3;clear hs4 hb5 hs5 hof hel ro hg hat rin f1 f2 f3 hb4 hst
   obtain⟨B5,HRUN,HX5⟩:=Zq3 b5 hrun hX5;clear b5 hrun hX5
   go_wp2_with (first
    | (refine wpList_load_row (by rfl) 42 _ (by rfl) w4.heap.size (by rfl) 42 #[.bool r.choice,.slice hA' hl' hc',.bool r.sum,.int .i64 r.bound,.slice bA' bl' bc',.slice wA' wl' wc'] (0,0) _ B5.out Tryz.underlying42 rfl info_rule ?_)
    | (at_builtin;refine wpList_append_run rfl _ _ _ rfl _ _ rfl rfl _ _ HRUN.out ?_))
   go_roundw;exact⟨i+1,_,_,by omega,by go_num,HX5.out,fun q hq=>List.mem_append.2 (.inl (HES.out q hq))⟩;simp[intOf];omega
  ·have hil:i=ql:=(by omega);have hL0:=HL0.out;clear HL0;have htk:rs.take i=rs:=List.take_of_length_le (by have:=HQLEN.out;omega);rw[htk]at hs hL0
   obtain⟨M,hM⟩:∃M,M=rl+i:=⟨_,rfl⟩
   rw[← hM]at hs hL0;have hlast:=hs.last #[.int .i64 N,.slice nA3 NL nc3,.slice sA1 sl sc1,.slice rvA M rvc,.slice mA1 ml mc1] (by rw[← HNL.out];omega) (by have:=HP.out.shown.len;omega) (by rw[hL0];omega) (by have:=HP.out.min.len;omega) E (fun q hq=>⟨HES.out q hq,(HE.out q hq).2⟩)
   obtain⟨nA',nc',sA',sc',rA',rc',mA',mc',e1,e2,e3,e4,j1,j2,j3,j4,j5⟩:=hlast
   have hfz:Blk (wo.setRow (w.heap.size+1) #[.int .i64 N,.slice nA3 NL nc3,.slice sA1 sl sc1,.slice rvA M rvc,.slice mA1 ml mc1]) (w.heap.size+1) 27 #[.int .i64 N,.slice nA3 NL nc3,.slice sA1 sl sc1,.slice rvA M rvc,.slice mA1 ml mc1]:=hs.e1.row _;have hbx:=hs.bx;have he1:=hs.e1;have hM2:M≤80000:=(by omega)
   obtain⟨HM,HIL,HL0,HTK,HS,HFZ,HBX,HE1,E1,E2,E3,E4⟩:=Zq12 hM hil hL0 htk hs hfz hbx he1 e1 e2 e3 e4;clear hM hil hL0 htk hs hfz hbx he1 e1 e2 e3 e4
   obtain⟨J1,J2,J3,J4,J5⟩:=Zq5 j1 j2 j3 j4 j5;clear j1 j2 j3 j4 j5
   go_wp2_with (first
    | (refine wpList_load_row (by rfl) 27 _ (by rfl) w2.heap.size (by rfl) 27 #[.int .i64 N,.slice nA3 NL nc3,.slice sA1 sl sc1,.slice rvA M rvc,.slice mA1 ml mc1] (0,0) _ HBX.out Tryz.underlying27 rfl info_prog' ?_)
    | (refine wpList_store_row (by rfl) 27 _ _ (by rfl) (w.heap.size+1) #[.int .i64 N,.slice nA3 NL nc3,.slice sA1 sl sc1,.slice rvA M rvc,.slice mA1 ml mc1] (by rfl) (by rfl) 27 _ HE1.out info_prog' (by rfl) (by simp[Value.oneCell']) ?_))
   refine bodyPost_ret (results_row_tmp rfl _ _ (w.heap.size+1) 27 #[.int .i64 N,.slice nA3 NL nc3,.slice sA1 sl sc1,.slice rvA M rvc,.slice mA1 ml mc1] _ (.int .i64 0) rfl rfl HFZ.out Tryz.underlying27 rfl info_prog') rfl ?_;have hN64:I64 N:=(by unfold I64;omega);have a1:=E1.out;have a2:=E2.out;have a3:=E3.out;have a4:=E4.out;injection a1 with a11 a12 a13;injection a2 with a21 a22 a23;injection a3 with a31 a32 a33;injection a4 with a41 a42 a43;have b1:=J1.out;have b2:=J2.out;have b3:=J3.out;have b4:=J4.out;rw[← a11,← a12,← a13]at b1;rw[← a21,← a22,← a23]at b2;rw[← a31,← a32,← a33]at b3;rw[← a41,← a42,← a43]at b4;have hext:extP p k rs={ p with n:=N,names:=p.names++List.replicate k ByteArray.empty,rules:=p.rules++rs.map normR }:=(by unfold extP;rw[HN.out])
   exact⟨_,_,_,_,_,_,_,_,_,_,_,_,rfl,fun V hV=>by rw[hext];exact⟨hN64,b1 V hV,b2 V hV,b3 V hV,b4 V hV⟩,J5.out⟩
open Go.RowKit
theorem extP_is {p:GProg}{k:Nat}{rs:LG}(h:ProgIs p)(hk:p.n+(k:Int)≤4000)(hl:p.rules.length+rs.length≤40000)(hr:∀r∈rs,RuleIs (normR r) (p.n+k)):ProgIs (extP p k rs):=by
 have hn:p.n≤p.n+(k:Int):=(by omega)
 refine⟨?_,?_,fun r hm=>?_,h.mins,ex_minGo hn _ _ h.min⟩
 ·have h1:=h.named;unfold namedB at h1 ⊢;simp only[Bool.and_eq_true,decide_eq_true_eq]at h1 ⊢
  obtain⟨⟨⟨⟨a,b⟩,c⟩,d⟩,e⟩:=h1
  refine⟨⟨⟨⟨by show 0≤p.n+(k:Int);omega,hk⟩,?_⟩,ex_incB d hn⟩,ex_names k _ _ (by simp) e⟩
  show (((p.names++List.replicate k ByteArray.empty).length:Nat):Int)=p.n+k;rw[List.length_append,List.length_replicate];omega
 ·show (p.rules++rs.map normR).length≤40000;rw[List.length_append,List.length_map];exact hl
 ·rcases List.mem_append.1 hm with h1 | h1
  ·exact(h.rules r h1).wide hn hk
  ·obtain⟨x,hx,rfl⟩:=List.mem_map.1 h1
   exact hr x hx

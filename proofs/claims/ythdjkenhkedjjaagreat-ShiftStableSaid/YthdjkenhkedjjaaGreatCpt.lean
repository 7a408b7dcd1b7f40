/- Cpt -/
import Derived.Test.YthdjkenhkedjjaaGreatGof
import Derived.Test.YthdjkenhkedjjaaGreatNum
import Derived.Laws.OwnMore
namespace Go.Proofs.YthdjkenhkedjjaaGreat
open Go.RowKit
theorem exists_meas {α:Type}(R:α→Nat→Prop):∃M:α→Nat,∀a n,R a n→R a (M a)∧M a≤n:=by
 have key:∀(a:α),∃m:Nat,∀n,R a n→R a m∧m≤n:=fun a=>by
  by_cases h:∃n,R a n
  ·obtain⟨n,hn⟩:=h
   have:∀n,R a n→∃m,R a m∧∀k,R a k→m≤k:=by
    intro n
    induction n using Nat.strongRecOn with
    |ind n ih=>
     intro hn
     by_cases h2:∃k,k<n∧R a k
     ·obtain⟨k,hk,hr⟩:=h2
      exact ih k hk hr
     ·exact⟨n,hn,fun k hk=>Classical.byContradiction fun q=>h2 ⟨k,by omega,hk⟩⟩
   obtain⟨m,hm,hl⟩:=this n hn
   exact⟨m,fun k hk=>⟨hm,hl k hk⟩⟩
  ·exact⟨0,fun n hn=>absurd ⟨n,hn⟩ h⟩
 exact⟨fun a=>Classical.choose (key a),fun a=>Classical.choose_spec (key a)⟩
theorem ownsRow_take {W:World}{B e size l c:Nat}{A:OA}{cs:List Value}(h:W.ownsRow B e size (.slice A l c) l cs){k:Nat}(hk:k≤l):W.ownsRow B e size (.slice A k c) k (cs.take (k*size)):=by
 obtain⟨h1,h2⟩:=h
 have hm:k*size≤l*size:=Nat.mul_le_mul_right _ hk
 refine⟨by rw[List.length_take,h1];omega,?_⟩
 rcases h2 with⟨e1,h0⟩ | ⟨g,cap,cur,e1,hb,hh,hlc,hcm,hcs,htk⟩
 ·cases e1;exact .inl ⟨by rw[show k=0 by omega],by omega⟩
 ·cases e1;refine .inr ⟨g,_,cur,rfl,hb,hh,by omega,hcm,hcs,?_⟩;rw[← htk,List.take_take,Nat.min_eq_left hm]
theorem OwnI.take {W:World}{B l c:Nat}{A:OA}{xs:LI}(h:OwnI W B (.slice A l c) l xs){k:Nat}(hk:k≤l):OwnI W B (.slice A k c) k (xs.take k):=by
 refine⟨by rw[List.length_take,← h.1];omega,?_⟩
 have:=ownsRow_take h.2 hk
 rwa [Nat.mul_one,← List.map_take]at this
theorem own_ty2 {W:World}{B B':Nat}{e e':TypeId}{z z' n n':Nat}{v v':Value}{cs cs':List Value}(h:W.ownsRow B e z v n cs)(h':W.ownsRow B' e' z' v' n' cs')(ht:e≠e'){k:Nat}(hk:v.ownBlock=some k):v'.ownBlock≠some k:=fun hk'=>by
 rcases h.2 with⟨rfl,_⟩ | ⟨g,cap,cur,rfl,_,hg,_⟩
 ·cases hk
 ·rcases h'.2 with⟨rfl,_⟩ | ⟨g',cap',cur',rfl,_,hg',_⟩
  ·cases hk'
  ·have e1:g=k:=by simpa[Value.ownBlock]using hk
   have e2:g'=k:=(by simpa[Value.ownBlock]using hk');subst e1 e2
   have:=hg.symm.trans hg'
   simp at this;exact ht this.2
def toP (f:Int×Nat):Int×Int:=(f.1,(f.2:Int))
def callL (cs:List (Int×Nat)):List (Int×Int):=(cs.map toP).reverse
theorem callL_len (cs:List (Int×Nat)):(callL cs).length=cs.length:=by unfold callL;simp
theorem callL_cons (f:Int×Nat)(cs:List (Int×Nat)):callL (f::cs)=callL cs++[toP f]:=by unfold callL;simp
theorem callL_top (f:Int×Nat)(cs:List (Int×Nat)):(callL (f::cs))[cs.length]? = some (toP f):=by
 rw[callL_cons,List.getElem?_append_right (by rw[callL_len];omega),callL_len];simp
theorem pairCs_take:∀(xs:List (Int×Int))(k:Nat),(pairCs xs).take (k*2)=pairCs (xs.take k)
 |[],k=>by simp[pairCs]
 |x::r,0=>by simp[pairCs]
 |x::r,k+1=>by
  have ih:=pairCs_take r k;rw[show (k+1)*2=k*2+2 by omega];show ([Value.int .i64 x.1,Value.int .i64 x.2]++pairCs r).take (k*2+2)=_;rw[List.take_append,List.take_of_length_le (by simp)];simp only[List.length_cons,List.length_nil,Nat.add_sub_cancel];rw[ih];rfl
theorem pairCs_set:∀(xs:List (Int×Int))(i:Nat)(x:Int×Int)(y:Int),xs[i]? = some x→(pairCs xs).set (i*2+1) (.int .i64 y)=pairCs (xs.set i (x.1,y))
 |[],i,x,y,h=>by simp at h
 |z::r,0,x,y,h=>by
  have:z=x:=by simpa using h
  subst this;rfl
 |z::r,i+1,x,y,h=>by
  have ih:=pairCs_set r i x y (by simpa using h);rw[show (i+1)*2+1=(i*2+1)+1+1 by omega];show Value.int .i64 z.1::Value.int .i64 z.2::(pairCs r).set (i*2+1) _=_;rw[ih];rfl
def OwnF (w:World)(base:Nat)(v:Value)(l:Nat)(xs:List (Int×Int)):Prop:=l=xs.length∧w.ownsRow base 130 2 v l (pairCs xs)
theorem OwnF.keptS {w w':World}{base:Nat}{v:Value}{l:Nat}{xs:List (Int×Int)}{S:LN}(h:OwnF w base v l xs)(hk:Kept S w w')(hne:∀k,v.ownBlock=some k→k∉S):OwnF w' base v l xs:=⟨h.1,ownsRow_keptS h.2 hk hne⟩
theorem OwnF.bel {w w':World}{base:Nat}{v:Value}{l:Nat}{xs:List (Int×Int)}(h:OwnF w base v l xs)(hb:Below w.heap.size w w'):OwnF w' base v l xs:=h.keptS (Kept.of_below hb []) (by simp)
theorem OwnF.lit {w:World}{base:Nat}{x:Int×Int}(hb:base≤w.heap.size):OwnF (w.alloc (.cells #[.int .i64 x.1,.int .i64 x.2] 130)) base (.slice (some ⟨w.heap.size,0,none⟩) 1 1) 1 [x]:=
 ⟨rfl,World.ownsRow_lit w _ 1 hb (by unfold maxLen;omega) rfl⟩
theorem OwnF.form {w:World}{base:Nat}{v:Value}{l:Nat}{xs:List (Int×Int)}(h:OwnF w base v l xs)(h0:0<l):∃g cap,v=.slice (some ⟨g,0,none⟩) l cap∧(l≤cap∧cap≤9223372036854775807)∧(base≤g∧g<w.heap.size) ∧
  (∀i x,xs[i]? = some x→w.cell? ⟨g,i*2,none⟩=some (.int .i64 x.1)∧w.cell? ⟨g,i*2+1,none⟩=some (.int .i64 x.2))∧∀j,w.frozen? ⟨g,j,none⟩=false:=by
 obtain⟨hl,hr⟩:=h
 have hr2:=hr;rcases hr.2 with⟨rfl,hz⟩ | ⟨g,cap,cur,rfl,hb,hh,hlc,hcm,hcs,htk⟩
 ·omega
 ·refine⟨g,cap,rfl,⟨hlc,hcm⟩,⟨hb,(hr2.lt g rfl).2⟩,fun i x hx=>?_,hr2.frozenAt⟩
  have hi:=(List.getElem?_eq_some_iff.1 hx).1;have hp:=pairCs_at xs i x hx
  have g0:(pairCs xs)[i*2]? = some (.int .i64 x.1):=by
   have:=congrArg (fun l=>l[0]?) hp
   simpa[List.getElem?_take,List.getElem?_drop]using this
  have g1:(pairCs xs)[i*2+1]? = some (.int .i64 x.2):=by
   have:=congrArg (fun l=>l[1]?) hp
   simpa[List.getElem?_take,List.getElem?_drop]using this
  exact⟨by rw[hr2.cellAt _ (by omega)];exact g0,by rw[hr2.cellAt _ (by omega)];exact g1⟩
theorem OwnF.take {W:World}{B l c:Nat}{A:OA}{xs:List (Int×Int)}(h:OwnF W B (.slice A l c) l xs){k:Nat}(hk:k≤l):OwnF W B (.slice A k c) k (xs.take k):=by
 refine⟨by rw[List.length_take,← h.1];omega,?_⟩
 have:=ownsRow_take h.2 hk
 rwa [pairCs_take]at this
theorem OwnF.put {W:World}{B g l cap:Nat}{xs:List (Int×Int)}(h:OwnF W B (.slice (some ⟨g,0,none⟩) l cap) l xs){i:Nat}{x:Int×Int}(hx:xs[i]? = some x)(y:Int):OwnF (W.setCell ⟨g,i*2+1,none⟩ (.int .i64 y)) B (.slice (some ⟨g,0,none⟩) l cap) l (xs.set i (x.1,y)):=by
 refine⟨by rw[List.length_set];exact h.1,?_⟩
 have hi:=(List.getElem?_eq_some_iff.1 hx).1;have h2:=(h.2.stored (i*2+1) (.int .i64 y)).1
 rwa [pairCs_set xs i x y hx]at h2
theorem info_frame:(Tryz.prog.info? 130).map (fun i=>(i.zero,i.size,i.bytes))=some (some (.agg #[.int .i64 0,.int .i64 0]),2,16):=by kernel_rfl
theorem appF {w:World}{base:Nat}{v:Value}{l:Nat}{xs:List (Int×Int)}(h:OwnF w base v l xs)(y z:Int)(hs:l<4398046511104)(hb:base≤w.heap.size)(ty:TypeId):
  ∃v' w',(Builtin.append_ #[131,131] ty #[v,.slice (some ⟨w.heap.size,0,none⟩) 1 1]).run Tryz.prog (w.alloc (.cells #[.int .i64 y,.int .i64 z] 130))=.ok v' w'∧OwnF w' base v' (l+1) (xs++[(y,z)])∧w.grownBy w' v.ownBlock ∧
   (∀k,v'.ownBlock=some k→v.ownBlock=some k∨w.heap.size≤k):=by
 obtain⟨i0,hi0,hz0,hz1,hz2⟩:=info_parts info_frame
 obtain⟨v',w',hrun,h2,h3,_,h5⟩:=run_append_own_at (P:=Tryz.prog) (w.alloc (.cells #[.int .i64 y,.int .i64 z] 130)) base 131 ty 130 i0 _ 2 16 Tryz.underlying131 hi0 hz0 hz1 hz2 rfl (by omega) v l _ (h.2.alloc _) ⟨w.heap.size,0,none⟩ 1 1 [.int .i64 y,.int .i64 z] rfl
  (by intro j u hj;match j,hj with
    |0,hj=>simp at hj;subst hj;simp[Addr.add]
    |1,hj=>simp at hj;subst hj;simp[Addr.add]
    |j+2,hj=>simp at hj) (by simp[Value.oneCell']) (by unfold maxLen;omega) (by omega) (by simp;omega)
 refine⟨v',w',hrun,⟨by rw[h.1];simp,by simpa[pairCs]using h2⟩,⟨h3.os,h3.tape,h3.output,Nat.le_trans (by simp) h3.size,fun k hk hne=>?_⟩,fun k hk=>?_⟩
 ·rw[h3.block k (by simp;omega) hne];exact Below.heap_alloc w _ k hk
 ·rcases h5 with h5 | h5 <;> rw[h5]at hk
  ·exact .inl hk
  ·simp at hk;exact .inr (by omega)
theorem offAll_snoc:∀(xs on:LI)(b:Int),offAll on (xs++[b])=updZ (offAll on xs) b 0
 |[],on,b=>rfl
 |x::r,on,b=>by rw[List.cons_append,offAll,offAll_snoc r,offAll]
theorem idx_of {a:Int}:∀(xs:LI)(k:Int),a∈xs→idxGo (fun x=>decide (x=a)) k xs=k+(xs.idxOf a:Nat)
 |[],k,h=>by cases h
 |x::r,k,h=>by
  rw[idxGo_cons]
  by_cases e:x=a
  ·subst e
   simp
  ·have h2:a∈r:=by
    rcases List.mem_cons.1 h with q | q
    ·exact absurd q.symm e
    ·exact q
   have hb:(x==a)=false:=(by simpa using e);rw[decide_eq_false e,idx_of r (k+1) h2,List.idxOf_cons,hb]
   simp;omega
theorem ownB_int {w0 W:World}{B:Nat}{v:Value}{xs:LI}(h:OwnB intR 3 w0 B W v xs):OwnI W B v xs.length xs:=by
 obtain⟨_,cs,h1,h2⟩:=h
 have hl:cs.length=xs.length:=by have:=h1.1;simpa[intR]using this
 have e:cs=xs.map (Value.int .i64):=by
  apply List.ext_getElem?;intro i;rcases Nat.lt_or_ge i xs.length with hi | hi
  ·have h3:=(h2 i xs[i] (List.getElem?_eq_getElem hi)).1;simp only[intR,Nat.mul_one]at h3;have h4:=congrArg (fun l=>l[0]?) h3;rw[List.getElem?_map,List.getElem?_eq_getElem hi]
   simpa[List.getElem?_take,List.getElem?_drop]using h4
  ·rw[List.getElem?_eq_none (by omega),List.getElem?_eq_none (by simp;omega)]
 rw[e]at h1
 exact⟨rfl,h1⟩
def frR (B:Nat):Rep (LI) where
 size:=1
 pos:=(by decide)
 is:=fun w cs xs=>∃A l c,cs=[.slice A l c]∧SlIs intR w A l c xs∧Frs B A l
 len:=by rintro w cs x ⟨_,_,_,rfl,_⟩;rfl
 ext:=by rintro w w' cs x ⟨A,l,c,rfl,h,hf⟩ hb;exact⟨A,l,c,rfl,h.ext hb,hf⟩
 one:=by rintro w cs x ⟨_,_,_,rfl,_⟩ u hu;simp at hu;subst hu;rfl
theorem SlIs.unfr {B:Nat}{w:World}{A:OA}{l c:Nat}{xs:List (LI)}(h:SlIs (frR B) w A l c xs):SlIs (slR intR) w A l c xs:=by
 refine⟨h.1,h.2.1,h.2.2.1,fun h0=>?_⟩
 obtain⟨ad,e,hl,hc⟩:=h.2.2.2 h0
 refine⟨ad,e,hl,fun i x hx=>?_⟩
 obtain⟨cs,⟨A',l',c',h1,h2,-⟩,h3⟩:=hc i x hx
 exact⟨cs,⟨A',l',c',h1,h2⟩,h3⟩
theorem SetRow.slF {W:World}{base:Nat}{v:Value}{cs:List Value}{M:LN}{pre:List (LI)}{n:Nat}(h:SetRow W base v cs M pre)(hM:∀k,k<n→k∈M)(hs:pre.length≤17592186044416):∃A c,v=.slice A pre.length c∧SlIs (frR n) W A pre.length c pre:=
 SlIs.of_own (R:=frR n) h.1 rfl hs (fun i x hx=>by
  obtain⟨A,l,c,h1,h2,h3⟩:=h.2 i x hx
  refine⟨A,l,c,?_,h2,fun h0 ad e=>?_⟩
  ·have hi:=(List.getElem?_eq_some_iff.1 h1).1;simp only[frR,Nat.mul_one];rw[List.drop_eq_getElem_cons hi,(List.getElem?_eq_some_iff.1 h1).2]
   rfl
  ·rcases Nat.lt_or_ge ad.block n with q | q
   ·exact absurd (hM _ q) (h3 h0 ad e)
   ·exact q)
theorem SetRow.mark {W:World}{B:Nat}{v:Value}{cs:List Value}{M T:LN}{pre:List (LI)}(h:SetRow W B v cs M pre)(hT:∀k∈T,k∈M∨W.heap.size≤k):SetRow W B v cs T pre:=by
 refine⟨h.1,fun i x hx=>?_⟩
 obtain⟨A,l,c,h1,h2,h3⟩:=h.2 i x hx
 refine⟨A,l,c,h1,h2,fun h0 ad e hm=>?_⟩
 rcases hT _ hm with q | q
 ·exact h3 h0 ad e q
 ·have:=h2.blk_lt h0 e;omega
theorem sl_from {α:Type}{R:Rep α}(hR:R.size=1){w:World}{b o l c:Nat}{xs:List α}(h:SlIs R w (some ⟨b,o,none⟩) l c xs){k:Nat}(hk:k≤l):SlIs R w (some ⟨b,o+k,none⟩) (l-k) (c-k) (xs.drop k):=by
 have hl:=h.1
 refine⟨by rw[List.length_drop];omega,Nat.sub_le_sub_right h.2.1 k,⟨Nat.le_trans (Nat.sub_le _ _) h.2.2.1.1,Nat.le_trans (Nat.sub_le _ _) h.2.2.1.2⟩,fun h0=>?_⟩
 obtain⟨ad,e,hlt,hc⟩:=h.2.2.2 (by omega)
 cases e
 refine⟨_,rfl,hlt,fun i x hx=>?_⟩
 rw[List.getElem?_drop]at hx
 obtain⟨cs,h1,h2⟩:=hc _ x hx
 refine⟨cs,h1,fun j u hu=>?_⟩
 have:=h2 j u hu
 rw[add_none]at this ⊢;rw[hR]at this ⊢;rw[show o+k+(i*1+j)=o+((k+i)*1+j) by omega];exact this
def tM (lo:LN)(sv ov:Value)(X:LN):LN:=lo++(sv.ownBlock.toList++(ov.ownBlock.toList++X))
theorem tM_mem {lo:LN}{sv ov:Value}{X:LN}{k:Nat}:k∈tM lo sv ov X↔k∈lo∨sv.ownBlock=some k∨ov.ownBlock=some k∨k∈X:=by
 unfold tM;simp[List.mem_append,Option.mem_toList]
structure TW (w0:World)(n a1 a2 a3 a4 a5 a6 a7 ui ul uo B:Nat)(gA:OA)(gc:Nat)(X:LN)(W:World)(s:TS)(sv ov:Value):Prop where
 b1:Blk W a1 23 #[.slice (some ⟨ui,0,none⟩) n n]
 b2:Blk W a2 3 #[.int .i64 s.cnt]
 b3:Blk W a3 23 #[.slice (some ⟨ul,0,none⟩) n n]
 b4:Blk W a4 23 #[.slice (some ⟨uo,0,none⟩) n n]
 b5:Blk W a5 23 #[sv]
 b6:Blk W a6 91 #[.slice gA n gc]
 b7:Blk W a7 61 #[ov]
 ix:Blk W ui 3 (intC s.idx)
 lw:Blk W ul 3 (intC s.low)
 on:Blk W uo 3 (intC s.on)
 st:OwnI W B sv s.stack.length s.stack
 ou:∃cs,SetRow W B ov cs (tM ([a1,a2,a3,a4,a5,a6,a7,ui,ul,uo]++List.range w0.heap.size) sv ov X) s.out
 lt:∀k∈[a1,a2,a3,a4,a5,a6,a7,ui,ul,uo],w0.heap.size≤k∧k<B
 nd:[a1,a2,a3,a4,a5,a6,a7,ui,ul,uo].Nodup
 bel:Below w0.heap.size w0 W
 sz:B≤W.heap.size
section
variable {w0 : World} {n a1 a2 a3 a4 a5 a6 a7 ui ul uo B : Nat} {gA : OA} {gc : Nat} {X : LN} {W W' : World} {s : TS} {sv ov : Value}
theorem TW.st_lt (h:TW w0 n a1 a2 a3 a4 a5 a6 a7 ui ul uo B gA gc X W s sv ov){k:Nat}(hk:sv.ownBlock=some k):B≤k∧k<W.heap.size:=h.st.2.lt k hk
theorem TW.ou_lt (h:TW w0 n a1 a2 a3 a4 a5 a6 a7 ui ul uo B gA gc X W s sv ov){k:Nat}(hk:ov.ownBlock=some k):B≤k∧k<W.heap.size:=by
 obtain⟨cs,h1⟩:=h.ou
 exact h1.1.lt k hk
theorem TW.ne (h:TW w0 n a1 a2 a3 a4 a5 a6 a7 ui ul uo B gA gc X W s sv ov){k:Nat}(hk:sv.ownBlock=some k):ov.ownBlock≠some k:=by
 obtain⟨cs,h1⟩:=h.ou
 exact own_ty2 h.st.2 h1.1 (by decide) hk
theorem TW.kept (h:TW w0 n a1 a2 a3 a4 a5 a6 a7 ui ul uo B gA gc X W s sv ov){S:LN}(hk:Kept S W W')(hS:∀k∈S,(k∈X∨W.heap.size≤k)∧B≤k∧sv.ownBlock≠some k∧ov.ownBlock≠some k):TW w0 n a1 a2 a3 a4 a5 a6 a7 ui ul uo B gA gc X W' s sv ov:=by
 have off:∀k∈[a1,a2,a3,a4,a5,a6,a7,ui,ul,uo],k∉S:=fun k hk hm=>by
  have:=(h.lt k hk).2
  have:=(hS k hm).2.1;omega
 have hB:=h.bel.size;have hz:=h.sz;have h0:w0.heap.size≤B:=by have:=h.lt a1 (by simp);omega
 refine⟨hk.blk h.b1 (off _ (by simp)),hk.blk h.b2 (off _ (by simp)),hk.blk h.b3 (off _ (by simp)),hk.blk h.b4 (off _ (by simp)),hk.blk h.b5 (off _ (by simp)),hk.blk h.b6 (off _ (by simp)),hk.blk h.b7 (off _ (by simp)),hk.blk h.ix (off _ (by simp)),hk.blk h.lw (off _ (by simp)),hk.blk h.on (off _ (by simp)),
  h.st.keptS hk (fun k hv hm=>(hS k hm).2.2.1 hv),?_,h.lt,h.nd,Kept.below h.bel hk h.bel.size (fun k hm=>by have:=(hS k hm).2.1;omega),Nat.le_trans h.sz hk.size⟩
 obtain⟨cs,h1⟩:=h.ou
 have h2:=h1.mark (T:=tM ([a1,a2,a3,a4,a5,a6,a7,ui,ul,uo]++List.range w0.heap.size) sv ov X++S.filter fun k=>decide (W.heap.size≤k)) (fun k hm=>by
  rcases List.mem_append.1 hm with q | q
  ·exact .inl q
  ·exact .inr (by simpa using(List.mem_filter.1 q).2))
 refine⟨cs,SetRow.mark (h2.kept hk (fun k hm=>⟨?_,(hS k hm).2.2.2⟩)) (fun k hm=>.inl (List.mem_append.2 (.inl hm)))⟩
 rcases(hS k hm).1 with q | q
 ·exact List.mem_append.2 (.inl (tM_mem.2 (.inr (.inr (.inr q)))))
 ·exact List.mem_append.2 (.inr (List.mem_filter.2 ⟨hm,by simpa using q⟩))
theorem TW.ext (h:TW w0 n a1 a2 a3 a4 a5 a6 a7 ui ul uo B gA gc X W s sv ov)(hb:Below W.heap.size W W'):TW w0 n a1 a2 a3 a4 a5 a6 a7 ui ul uo B gA gc X W' s sv ov:=h.kept (Kept.of_below hb []) (by simp)
theorem TW.more (h:TW w0 n a1 a2 a3 a4 a5 a6 a7 ui ul uo B gA gc X W s sv ov){Y:LN}(hY:∀k∈Y,k∈X∨W.heap.size≤k):TW w0 n a1 a2 a3 a4 a5 a6 a7 ui ul uo B gA gc Y W s sv ov:=by
 obtain⟨cs,h1⟩:=h.ou
 refine⟨h.b1,h.b2,h.b3,h.b4,h.b5,h.b6,h.b7,h.ix,h.lw,h.on,h.st,⟨cs,h1.mark fun k hm=>?_⟩,h.lt,h.nd,h.bel,h.sz⟩
 rcases tM_mem.1 hm with q | q | q | q
 ·exact .inl (tM_mem.2 (.inl q))
 ·exact .inl (tM_mem.2 (.inr (.inl q)))
 ·exact .inl (tM_mem.2 (.inr (.inr (.inl q))))
 ·exact(hY k q).imp (fun q=>tM_mem.2 (.inr (.inr (.inr q)))) id
theorem TW.ou_set (h:TW w0 n a1 a2 a3 a4 a5 a6 a7 ui ul uo B gA gc X W s sv ov){k:Nat}(hk:k∈[a1,a2,a3,a4,a5,a6,a7,ui,ul,uo])(i:Nat)(u:Value):∃cs,SetRow (W.setCell ⟨k,i,none⟩ u) B ov cs (tM ([a1,a2,a3,a4,a5,a6,a7,ui,ul,uo]++List.range w0.heap.size) sv ov X) s.out:=by
 obtain⟨cs,h1⟩:=h.ou
 refine⟨cs,h1.kept (S:=[k]) ((Kept.refl _ _).set (.inl (by simp)) _) fun q hq=>?_⟩
 have e:q=k:=by simpa using hq
 subst e
 exact⟨tM_mem.2 (.inl (List.mem_append.2 (.inl hk))),fun e=>by have:=(h.ou_lt e).1;have:=(h.lt _ hk).2;omega⟩
theorem TW.st_set (h:TW w0 n a1 a2 a3 a4 a5 a6 a7 ui ul uo B gA gc X W s sv ov){k:Nat}(hk:k∈[a1,a2,a3,a4,a5,a6,a7,ui,ul,uo])(i:Nat)(u:Value):OwnI (W.setCell ⟨k,i,none⟩ u) B sv s.stack.length s.stack:=
 h.st.keptS (S:=[k]) ((Kept.refl _ _).set (.inl (by simp)) _) fun q hq hm=>by
  have e:q=k:=by simpa using hm
  subst e
  have:=(h.st_lt hq).1
  have:=(h.lt _ hk).2;omega
theorem TW.bel_set (h:TW w0 n a1 a2 a3 a4 a5 a6 a7 ui ul uo B gA gc X W s sv ov){k:Nat}(hk:k∈[a1,a2,a3,a4,a5,a6,a7,ui,ul,uo])(i:Nat)(u:Value):Below w0.heap.size w0 (W.setCell ⟨k,i,none⟩ u):=
 Kept.below h.bel ((Kept.refl [k] W).set (.inl (by simp)) _) h.bel.size (fun q hq=>by
  have e:q=k:=by simpa using hq
  subst e
  exact(h.lt _ hk).1)
theorem nd_ne {l:LN}(h:l.Nodup)(i j:Nat){x y:Nat}(hi:l[i]? = some x)(hj:l[j]? = some y)(hij:i≠j):x≠y:=fun e=>by
 subst e
 obtain⟨hi1,hi2⟩:=List.getElem?_eq_some_iff.1 hi
 obtain⟨hj1,hj2⟩:=List.getElem?_eq_some_iff.1 hj
 have hp:=List.pairwise_iff_getElem.1 (List.nodup_iff_pairwise_ne.1 h);rcases Nat.lt_or_gt_of_ne hij with q | q
 ·exact hp i j hi1 hj1 q (hi2.trans hj2.symm)
 ·exact hp j i hj1 hi1 q (hj2.trans hi2.symm)
theorem TW.set2 (h:TW w0 n a1 a2 a3 a4 a5 a6 a7 ui ul uo B gA gc X W s sv ov)(c:Int):TW w0 n a1 a2 a3 a4 a5 a6 a7 ui ul uo B gA gc X (W.setCell ⟨a2,0,none⟩ (.int .i64 c)) { s with cnt:=c } sv ov:=by
 have hb:=h.b2.set_ 0 (.int .i64 c)
 exact⟨h.b1.far (nd_ne h.nd 0 1 rfl rfl (by decide)) _,hb,h.b3.far (nd_ne h.nd 2 1 rfl rfl (by decide)) _,h.b4.far (nd_ne h.nd 3 1 rfl rfl (by decide)) _,h.b5.far (nd_ne h.nd 4 1 rfl rfl (by decide)) _,h.b6.far (nd_ne h.nd 5 1 rfl rfl (by decide)) _,h.b7.far (nd_ne h.nd 6 1 rfl rfl (by decide)) _,h.ix.far (nd_ne h.nd 7 1 rfl rfl (by decide)) _,h.lw.far (nd_ne h.nd 8 1 rfl rfl (by decide)) _,h.on.far (nd_ne h.nd 9 1 rfl rfl (by decide)) _,
  h.st_set (by simp) _ _,h.ou_set (by simp) _ _,h.lt,h.nd,h.bel_set (by simp) _ _,by simpa[World.setCell]using h.sz⟩
theorem TW.setI (h:TW w0 n a1 a2 a3 a4 a5 a6 a7 ui ul uo B gA gc X W s sv ov)(a:Nat)(c:Int):TW w0 n a1 a2 a3 a4 a5 a6 a7 ui ul uo B gA gc X (W.setCell ⟨ui,a,none⟩ (.int .i64 c)) { s with idx:=updZ s.idx (a:Int) c } sv ov:=by
 have hb:=h.ix.set_ a (.int .i64 c);rw[updZ_cells _ (a:Int) c (by omega) a rfl]at hb
 exact⟨h.b1.far (nd_ne h.nd 0 7 rfl rfl (by decide)) _,h.b2.far (nd_ne h.nd 1 7 rfl rfl (by decide)) _,h.b3.far (nd_ne h.nd 2 7 rfl rfl (by decide)) _,h.b4.far (nd_ne h.nd 3 7 rfl rfl (by decide)) _,h.b5.far (nd_ne h.nd 4 7 rfl rfl (by decide)) _,h.b6.far (nd_ne h.nd 5 7 rfl rfl (by decide)) _,h.b7.far (nd_ne h.nd 6 7 rfl rfl (by decide)) _,hb,h.lw.far (nd_ne h.nd 8 7 rfl rfl (by decide)) _,h.on.far (nd_ne h.nd 9 7 rfl rfl (by decide)) _,
  h.st_set (by simp) _ _,h.ou_set (by simp) _ _,h.lt,h.nd,h.bel_set (by simp) _ _,by simpa[World.setCell]using h.sz⟩
theorem TW.setL (h:TW w0 n a1 a2 a3 a4 a5 a6 a7 ui ul uo B gA gc X W s sv ov)(a:Nat)(c:Int):TW w0 n a1 a2 a3 a4 a5 a6 a7 ui ul uo B gA gc X (W.setCell ⟨ul,a,none⟩ (.int .i64 c)) { s with low:=updZ s.low (a:Int) c } sv ov:=by
 have hb:=h.lw.set_ a (.int .i64 c);rw[updZ_cells _ (a:Int) c (by omega) a rfl]at hb
 exact⟨h.b1.far (nd_ne h.nd 0 8 rfl rfl (by decide)) _,h.b2.far (nd_ne h.nd 1 8 rfl rfl (by decide)) _,h.b3.far (nd_ne h.nd 2 8 rfl rfl (by decide)) _,h.b4.far (nd_ne h.nd 3 8 rfl rfl (by decide)) _,h.b5.far (nd_ne h.nd 4 8 rfl rfl (by decide)) _,h.b6.far (nd_ne h.nd 5 8 rfl rfl (by decide)) _,h.b7.far (nd_ne h.nd 6 8 rfl rfl (by decide)) _,h.ix.far (nd_ne h.nd 7 8 rfl rfl (by decide)) _,hb,h.on.far (nd_ne h.nd 9 8 rfl rfl (by decide)) _,
  h.st_set (by simp) _ _,h.ou_set (by simp) _ _,h.lt,h.nd,h.bel_set (by simp) _ _,by simpa[World.setCell]using h.sz⟩
theorem TW.setO (h:TW w0 n a1 a2 a3 a4 a5 a6 a7 ui ul uo B gA gc X W s sv ov)(a:Nat)(c:Int):TW w0 n a1 a2 a3 a4 a5 a6 a7 ui ul uo B gA gc X (W.setCell ⟨uo,a,none⟩ (.int .i64 c)) { s with on:=updZ s.on (a:Int) c } sv ov:=by
 have hb:=h.on.set_ a (.int .i64 c);rw[updZ_cells _ (a:Int) c (by omega) a rfl]at hb
 exact⟨h.b1.far (nd_ne h.nd 0 9 rfl rfl (by decide)) _,h.b2.far (nd_ne h.nd 1 9 rfl rfl (by decide)) _,h.b3.far (nd_ne h.nd 2 9 rfl rfl (by decide)) _,h.b4.far (nd_ne h.nd 3 9 rfl rfl (by decide)) _,h.b5.far (nd_ne h.nd 4 9 rfl rfl (by decide)) _,h.b6.far (nd_ne h.nd 5 9 rfl rfl (by decide)) _,h.b7.far (nd_ne h.nd 6 9 rfl rfl (by decide)) _,h.ix.far (nd_ne h.nd 7 9 rfl rfl (by decide)) _,h.lw.far (nd_ne h.nd 8 9 rfl rfl (by decide)) _,hb,
  h.st_set (by simp) _ _,h.ou_set (by simp) _ _,h.lt,h.nd,h.bel_set (by simp) _ _,by simpa[World.setCell]using h.sz⟩
theorem TW.calls (h:TW w0 n a1 a2 a3 a4 a5 a6 a7 ui ul uo B gA gc X W s sv ov)(cs:List (Int×Nat)):TW w0 n a1 a2 a3 a4 a5 a6 a7 ui ul uo B gA gc X W { s with calls:=cs } sv ov:=⟨h.b1,h.b2,h.b3,h.b4,h.b5,h.b6,h.b7,h.ix,h.lw,h.on,h.st,h.ou,h.lt,h.nd,h.bel,h.sz⟩
theorem TW.stack (h:TW w0 n a1 a2 a3 a4 a5 a6 a7 ui ul uo B gA gc X W s sv ov){sv':Value}{xs:LI}(ho:OwnI W' B sv' xs.length xs)(hg:W.grownBy W' sv.ownBlock)(hat:∀k,sv'.ownBlock=some k→sv.ownBlock=some k∨W.heap.size≤k):
  TW w0 n a1 a2 a3 a4 a5 a6 a7 ui ul uo B gA gc X (W'.setCell ⟨a5,0,none⟩ sv') { s with stack:=xs } sv' ov:=by
 have hk:=grown_kept hg;have h0:w0.heap.size≤B:=by have:=h.lt a1 (by simp);omega
 have off:∀k∈[a1,a2,a3,a4,a5,a6,a7,ui,ul,uo],k∉sv.ownBlock.toList:=fun k hm hq=>by
  have:=(h.lt k hm).2
  have:=(h.st_lt (by simpa using hq)).1;omega
 have k5:Kept [a5] W' (W'.setCell ⟨a5,0,none⟩ sv'):=(Kept.refl _ _).set (.inl (by simp)) _;have hb5:Blk W' a5 23 #[sv]:=hk.blk h.b5 (off _ (by simp));have hn5:=hb5.set_ 0 sv'
 refine⟨(hk.blk h.b1 (off _ (by simp))).far (nd_ne h.nd 0 4 rfl rfl (by decide)) _,(hk.blk h.b2 (off _ (by simp))).far (nd_ne h.nd 1 4 rfl rfl (by decide)) _,(hk.blk h.b3 (off _ (by simp))).far (nd_ne h.nd 2 4 rfl rfl (by decide)) _,(hk.blk h.b4 (off _ (by simp))).far (nd_ne h.nd 3 4 rfl rfl (by decide)) _,hn5,(hk.blk h.b6 (off _ (by simp))).far (nd_ne h.nd 5 4 rfl rfl (by decide)) _,(hk.blk h.b7 (off _ (by simp))).far (nd_ne h.nd 6 4 rfl rfl (by decide)) _,
  (hk.blk h.ix (off _ (by simp))).far (nd_ne h.nd 7 4 rfl rfl (by decide)) _,(hk.blk h.lw (off _ (by simp))).far (nd_ne h.nd 8 4 rfl rfl (by decide)) _,(hk.blk h.on (off _ (by simp))).far (nd_ne h.nd 9 4 rfl rfl (by decide)) _,?_,?_,h.lt,h.nd,?_,?_⟩
 ·exact ho.keptS k5 fun q hq hm=>by
   have e:q=a5:=(by simpa using hm);subst e
   have:=(ho.2.lt _ hq).1
   have:=(h.lt q (by simp)).2;omega
 ·obtain⟨cs,h1⟩:=h.ou
  have h3:SetRow W B ov cs (tM ([a1,a2,a3,a4,a5,a6,a7,ui,ul,uo]++List.range w0.heap.size) sv' ov (sv.ownBlock.toList++X)) s.out:=h1.mark fun k hm=>by
   rcases tM_mem.1 hm with q | q | q | q
   ·exact .inl (tM_mem.2 (.inl q))
   ·exact(hat k q).imp (fun q=>tM_mem.2 (.inr (.inl q))) id
   ·exact .inl (tM_mem.2 (.inr (.inr (.inl q))))
   ·rcases List.mem_append.1 q with q | q
    ·exact .inl (tM_mem.2 (.inr (.inl (by simpa using q))))
    ·exact .inl (tM_mem.2 (.inr (.inr (.inr q))))
  have h4:SetRow W' B ov cs _ s.out:=h3.kept hk fun k hm=>⟨tM_mem.2 (.inr (.inr (.inr (List.mem_append.2 (.inl hm))))),h.ne (by simpa using hm)⟩
  refine⟨cs,SetRow.kept (h4.mark (T:=tM ([a1,a2,a3,a4,a5,a6,a7,ui,ul,uo]++List.range w0.heap.size) sv' ov X) fun k hm=>.inl ?_) k5 fun q hq=>?_⟩
  ·rcases tM_mem.1 hm with q | q | q | q
   ·exact tM_mem.2 (.inl q)
   ·exact tM_mem.2 (.inr (.inl q))
   ·exact tM_mem.2 (.inr (.inr (.inl q)))
   ·exact tM_mem.2 (.inr (.inr (.inr (List.mem_append.2 (.inr q)))))
  ·have e:q=a5:=by simpa using hq
   subst e
   exact⟨tM_mem.2 (.inl (List.mem_append.2 (.inl (by simp)))),fun e=>by have:=(h.ou_lt e).1;have:=(h.lt q (by simp)).2;omega⟩
 ·refine Kept.below (Kept.below h.bel hk h.bel.size fun k hm=>?_) k5 ?_ fun q hq=>?_
  ·have:=(h.st_lt (by simpa using hm)).1;omega
  ·exact Nat.le_trans h.bel.size hk.size
  ·have e:q=a5:=by simpa using hq
   subst e
   exact(h.lt _ (by simp)).1
 ·have:=h.sz;have:=hk.size;simp[World.setCell];omega
theorem TW.out (h:TW w0 n a1 a2 a3 a4 a5 a6 a7 ui ul uo B gA gc X W s sv ov){A:OA}{l c:Nat}{x:LI}(hx:SlIs intR W A l c x)(ho:Off (tM ([a1,a2,a3,a4,a5,a6,a7,ui,ul,uo]++List.range w0.heap.size) sv ov X) A l)(hl:s.out.length<1000000)(ty:TypeId):
  ∃ov' W',(Builtin.append_ #[61,61] ty #[ov,.slice (some ⟨W.heap.size,0,none⟩) 1 1]).run Tryz.prog (W.alloc (.cells #[.slice A l c] 23))=.ok ov' W'∧Kept ov.ownBlock.toList W W'∧(∀k,ov'.ownBlock=some k→ov.ownBlock=some k∨W.heap.size≤k)∧Blk W' a7 61 #[ov] ∧
   TW w0 n a1 a2 a3 a4 a5 a6 a7 ui ul uo B gA gc X (W'.setCell ⟨a7,0,none⟩ ov') { s with out:=s.out++[x] } sv ov':=by
 obtain⟨cs,h1⟩:=h.ou
 have h0:w0.heap.size≤B:=by have:=h.lt a1 (by simp);omega
 obtain⟨ov',W',hrun,hown,hg,hat⟩:=appL h1.1 A l c (by omega) h.sz ty
 have hk:Kept ov.ownBlock.toList W W':=grown_kept hg
 have off:∀k∈[a1,a2,a3,a4,a5,a6,a7,ui,ul,uo],k∉ov.ownBlock.toList:=fun k hm hq=>by
  have:=(h.lt k hm).2
  have:=(h.ou_lt (by simpa using hq)).1;omega
 have k7:Kept [a7] W' (W'.setCell ⟨a7,0,none⟩ ov'):=(Kept.refl _ _).set (.inl (by simp)) _;have hb7:Blk W' a7 61 #[ov]:=hk.blk h.b7 (off _ (by simp));have hn7:=hb7.set_ 0 ov'
 refine⟨ov',W',hrun,hk,hat,hb7,(hk.blk h.b1 (off _ (by simp))).far (nd_ne h.nd 0 6 rfl rfl (by decide)) _,(hk.blk h.b2 (off _ (by simp))).far (nd_ne h.nd 1 6 rfl rfl (by decide)) _,(hk.blk h.b3 (off _ (by simp))).far (nd_ne h.nd 2 6 rfl rfl (by decide)) _,(hk.blk h.b4 (off _ (by simp))).far (nd_ne h.nd 3 6 rfl rfl (by decide)) _,(hk.blk h.b5 (off _ (by simp))).far (nd_ne h.nd 4 6 rfl rfl (by decide)) _,(hk.blk h.b6 (off _ (by simp))).far (nd_ne h.nd 5 6 rfl rfl (by decide)) _,hn7,
  (hk.blk h.ix (off _ (by simp))).far (nd_ne h.nd 7 6 rfl rfl (by decide)) _,(hk.blk h.lw (off _ (by simp))).far (nd_ne h.nd 8 6 rfl rfl (by decide)) _,(hk.blk h.on (off _ (by simp))).far (nd_ne h.nd 9 6 rfl rfl (by decide)) _,?_,?_,h.lt,h.nd,?_,?_⟩
 ·refine(h.st.keptS hk fun q hq hm=>h.ne hq (by simpa using hm)).keptS k7 fun q hq hm=>?_
  have e:q=a7:=by simpa using hm
  subst e
  have:=(h.st_lt hq).1
  have:=(h.lt q (by simp)).2;omega
 ·have hM:∀A l c y,SlIs intR W A l c y→Off (tM ([a1,a2,a3,a4,a5,a6,a7,ui,ul,uo]++List.range w0.heap.size) sv ov X) A l→SlIs intR (W'.setCell ⟨a7,0,none⟩ ov') A l c y∧Off (tM ([a1,a2,a3,a4,a5,a6,a7,ui,ul,uo]++List.range w0.heap.size) sv ov' X) A l:=fun A l c y hy ho1=>by
   refine⟨(hy.keptM hk (ho1.sub fun k hm=>tM_mem.2 (.inr (.inr (.inl (by simpa using hm)))))).keptM k7 (ho1.sub fun k hm=>?_),fun h0 ad e hm=>?_⟩
   ·have e:k=a7:=(by simpa using hm);subst e;exact tM_mem.2 (.inl (List.mem_append.2 (.inl (by simp))))
   ·rcases tM_mem.1 hm with q | q | q | q
    ·exact ho1 h0 ad e (tM_mem.2 (.inl q))
    ·exact ho1 h0 ad e (tM_mem.2 (.inr (.inl q)))
    ·rcases hat _ q with q | q
     ·exact ho1 h0 ad e (tM_mem.2 (.inr (.inr (.inl q))))
     ·have:=hy.blk_lt h0 e;omega
    ·exact ho1 h0 ad e (tM_mem.2 (.inr (.inr (.inr q))))
  refine⟨cs++[.slice A l c],?_⟩
  have hlen:cs.length=s.out.length:=by have:=h1.1.1;omega
  have hw:=ownsRow_keptS hown k7 (fun q hq hm=>by
   have e:q=a7:=(by simpa using hm);subst e;have h7:=(h.lt q (by simp)).2;rcases hat q hq with e | e
   ·have:=(h.ou_lt e).1;omega
   ·have:=h.sz;omega)
  refine⟨by rw[List.length_append];exact hw,fun i y hy=>?_⟩
  ·rcases Nat.lt_or_ge i s.out.length with hi | hi
   ·rw[List.getElem?_append_left hi]at hy
    obtain⟨A',l',c',e1,e2,e3⟩:=h1.2 i y hy
    obtain⟨q1,q2⟩:=hM A' l' c' y e2 e3
    exact⟨A',l',c',by rw[List.getElem?_append_left (by omega)];exact e1,q1,q2⟩
   ·rw[List.getElem?_append_right hi]at hy
    have hi2:i=s.out.length:=by
     have:=(List.getElem?_eq_some_iff.1 hy).1
     simp at this;omega
    subst hi2
    have:x=y:=(by simpa using hy)
    subst this
    obtain⟨q1,q2⟩:=hM A l c x hx ho
    exact⟨A,l,c,by rw[List.getElem?_append_right (by omega),hlen];simp,q1,q2⟩
 ·refine Kept.below (Kept.below h.bel hk h.bel.size fun k hm=>?_) k7 ?_ fun q hq=>?_
  ·have:=(h.ou_lt (by simpa using hm)).1;omega
  ·exact Nat.le_trans h.bel.size hk.size
  ·have e:q=a7:=by simpa using hq
   subst e
   exact(h.lt _ (by simp)).1
 ·have:=h.sz;have:=hk.size;simp[World.setCell];omega
end

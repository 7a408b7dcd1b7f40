/- G3 -/
import Derived.Test.YthdjkenhkedjjaaGreatG2
import Derived.Maps.OwnOps
import Derived.Maps.OwnSet
import Derived.Lib.Bytealg
import Derived.Shelf.Strings.Search1
set_option maxRecDepth 100000
set_option maxHeartbeats 4000000
namespace Go.Proofs.YthdjkenhkedjjaaGreat
theorem litLt_pos {a b:Int}(ha:0<a)(hb:0<b)(h:litLt a b=true):a<b:=by
 unfold litLt absI at h;rw[if_neg (by omega),if_neg (by omega)]at h;simp only[Bool.or_eq_true,Bool.and_eq_true,decide_eq_true_eq]at h;omega
theorem ord_pair (n:Int):∀(xs:LI)(p:Option Int),ordGo n p xs=true→(∀x∈xs,0<x)→(∀y,p=some y→0<y)→xs.Pairwise (· < ·)∧∀y,p=some y→∀x∈xs,y<x
 |[],_,_,_,_=>⟨List.Pairwise.nil,fun _ _ _ h=>by simp at h⟩
 |x::r,p,h,hp,hy=>by
  rw[ordGo_cons]at h;simp only[Bool.and_eq_true]at h;have hx:=hp x (by simp)
  obtain⟨h1,h2⟩:=ord_pair n r (some x) h.2 (fun z hz=>hp z (by simp[hz])) (fun y e=>by cases e;exact hx)
  refine⟨List.pairwise_cons.2 ⟨h2 x rfl,h1⟩,fun y e z hz=>?_⟩
  have hyx:y<x:=by
   have h3:=h.1.2;rw[e]at h3;exact litLt_pos (hy y e) hx h3
  rcases List.mem_cons.1 hz with rfl | hz
  ·exact hyx
  ·exact Int.lt_trans hyx (h2 x rfl z hz)
theorem bp_fst {r:GRule}(h:r.sum=true→r.w.length=r.body.length):(bp r).map Prod.fst=r.body:=by
 unfold bp
 by_cases hs:r.sum=true
 ·rw[if_pos hs];exact List.map_fst_zip (by rw[h hs];exact Nat.le_refl _)
 ·rw[if_neg hs];simp[List.map_map,Function.comp_def]
theorem bp_len {r:GRule}(h:r.sum=true→r.w.length=r.body.length):(bp r).length=r.body.length:=by
 rw[← bp_fst h,List.length_map]
theorem usesI_len (i:Nat)(a:Int):∀(l:List (Int×Int)),(l.map Prod.fst).Pairwise (· < ·)→(usesI i a l).length≤1
 |[],_=>by simp[usesI]
 |p::r,h=>by
  rw[List.map_cons,List.pairwise_cons]at h;have ih:=usesI_len i a r h.2
  by_cases e:p.1=a
  ·have h0:r.filter (fun q=>decide (q.1=a))=[]:=by
    rw[List.filter_eq_nil_iff];intro q hq
    have:=h.1 q.1 (List.mem_map.2 ⟨q,hq,rfl⟩)
    simp;omega
   simp[usesI,e,h0]
  ·have e2:usesI i a (p::r)=usesI i a r:=by simp[usesI,e]
   rw[e2];exact ih
structure DefIs (r:GRule)(n:Int):Prop where
 is:RuleIs r n
 pos:∀x∈r.body,0<x
 plain:r.choice=false
 one:r.head.length≤1
theorem defR_is {r:GRule}{n:Int}(h:defR n r=true):DefIs r n:=by
 have hi:=defR_rule h;simp only[defR,Bool.and_eq_true,decide_eq_true_eq,List.all_eq_true,Bool.not_eq_true']at h
 refine⟨hi,fun x hx=>?_,h.1.1.2,h.1.2⟩
 have h1:=h.2 x hx;have h2:=ordGo_mem n _ _ hi.body x hx;simp[litB]at h2;omega
theorem DefIs.pair {r:GRule}{n:Int}(h:DefIs r n):r.body.Pairwise (· < ·):=(ord_pair n r.body none h.is.body h.pos (fun _ e=>by cases e)).1
theorem DefIs.row {r:GRule}{n:Int}(h:DefIs r n)(i k:Nat)(a:Int):(usesI i a ((bp r).take k)).length≤1:=
 usesI_len i a _ (by rw[List.map_take,bp_fst h.is.wlen];exact h.pair.sublist (List.take_sublist _ _))
theorem usesGo_len {n:Int}(a:Int):∀(rs:LG)(i:Nat),(∀r∈rs,defR n r=true)→(usesGo a i rs).length≤rs.length
 |[],_,_=>by simp[usesGo]
 |r::rs,i,h=>by
  have h1:=(defR_is (h r (by simp))).row i (bp r).length a;rw[List.take_length]at h1;have h2:=usesGo_len a rs (i+1) (fun x hx=>h x (by simp[hx]));rw[usesGo,List.length_append,List.length_cons];omega
theorem rowsU_len {n:Int}{rs:LG}(h:∀r∈rs,defR n r=true)(i k a:Nat):(rowsU rs i k a).length≤rs.length+1:=by
 unfold rowsU;have h1:=usesGo_len (n:=n) (a:Int) (rs.take i) 0 (fun r hr=>h r (List.mem_of_mem_take hr));have h3:=List.length_take_le' i rs;rw[List.length_append]
 cases hr:rs[i]? with
 |none=>simp;omega
 |some r=>have h2:=(defR_is (h r (List.mem_of_getElem? hr))).row i k (a:Int);simp only;omega
theorem defB_all {n:Int}{rs:LG}(h:defB n rs=true):∀r∈rs,defR n r=true:=by
 unfold defB at h;simp only[Bool.and_eq_true,List.all_eq_true]at h;exact h.2
theorem defB_ok {N:Nat}{rs:LG}(h:defB N rs=true):DefOk rs N:=
 ⟨fun r hr a ha=>inc_mem (defR_is (defB_all h r hr)).is.head a ha,fun r hr x hx=>(defR_is (defB_all h r hr)).pos x hx⟩
theorem nodup_len:∀(n:Nat)(l:LI),l.Nodup→(∀x∈l,1≤x∧x≤(n:Int))→l.length≤n
 |0,l,_,h=>by
  cases l with
  |nil=>simp
  |cons x r=>have:=h x (by simp);omega
 |n+1,l,hn,h=>by
  by_cases hm:((n:Int)+1)∈l
  ·have h1:=nodup_len n (l.erase ((n:Int)+1)) (hn.erase _) (fun x hx=>by
    have h2:=(hn.mem_erase_iff).1 hx;have h3:=h x h2.2;have h4:=h2.1;omega)
   rw[List.length_erase_of_mem hm]at h1;omega
  ·have h1:=nodup_len n l hn (fun x hx=>by
    have h3:=h x hx;have h4:x≠(n:Int)+1:=fun e=>hm (e ▸ hx);omega)
   omega
theorem pair_nodup {l:LI}(h:l.Pairwise (· < ·)):l.Nodup:=h.imp fun hab=>by omega
theorem DefIs.blen {r:GRule}{n:Int}(h:DefIs r n):r.body.length≤4000:=by
 have h0:=h.is.n0;have h1:=h.is.n1
 have:=nodup_len n.toNat r.body (pair_nodup h.pair) (fun x hx=>by
  have h2:=h.pos x hx;have h3:=litB_bd (ordGo_mem n _ _ h.is.body x hx);omega)
 omega
theorem bp_bd {r:GRule}{n:Int}(h:DefIs r n):∀p∈bp r,1≤p.2∧p.2≤1048576:=by
 intro p hp;unfold bp at hp
 by_cases hs:r.sum=true
 ·rw[if_pos hs]at hp;have hm:=(List.of_mem_zip hp).2;have hw:=wtGo_spec r.w 0 (by omega) (by omega) (h.is.wt hs)
  refine⟨hw.1 _ hm,?_⟩
  have:∀(l:LI),(∀y∈l,1≤y)→∀x∈l,x≤l.sum:=by
   intro l
   induction l with
   |nil=>simp
   |cons y t ih=>
    intro hy x hx;have h1:=hy y (by simp);have h2:=sum_nonneg (l:=t) fun z hz=>by have:=hy z (by simp[hz]);omega
    rcases List.mem_cons.1 hx with rfl | hx
    ·rw[List.sum_cons];omega
    ·have:=ih (fun z hz=>hy z (by simp[hz])) x hx
     rw[List.sum_cons];omega
  have h3:=this r.w hw.1 _ hm;omega
 ·rw[if_neg hs]at hp
  obtain⟨x,_,rfl⟩:=List.mem_map.1 hp
  simp
theorem sumP_nonneg (m:LI):∀(l:List (Int×Int)),(∀p∈l,0≤p.2)→0≤sumP m l
 |[],_=>by simp[sumP]
 |p::r,h=>by
  have h1:=h p (by simp);have h2:=sumP_nonneg m r fun q hq=>h q (by simp[hq]);simp only[sumP];split <;> omega
theorem sumP_le (m:LI):∀(xs ys:LI),(∀y∈ys,0≤y)→sumP m (xs.zip ys)≤ys.sum
 |[],ys,h=>by simp[sumP];exact sum_nonneg h
 |x::xs,[],_=>by simp[sumP]
 |x::xs,y::ys,h=>by
  have h1:=h y (by simp);have h2:=sumP_le m xs ys fun q hq=>h q (by simp[hq]);simp only[List.zip_cons_cons,sumP,List.sum_cons];split <;> omega
theorem need_bd {r:GRule}{n:Int}(h:DefIs r n)(m:LI) : -1048576≤needF r m∧needF r m≤1048576:=by
 have hp:=sumP_nonneg m (bp r) fun p hp=>by have:=(bp_bd h p hp).1;omega
 unfold needF boundOf
 by_cases hs:r.sum=true
 ·have hw:=wtGo_spec r.w 0 (by omega) (by omega) (h.is.wt hs);have h0:=h.is.b0 hs;have h1:=h.is.b1 hs;have h2:=sumP_le m r.body r.w fun y hy=>by have:=hw.1 y hy;omega
  unfold bp at hp ⊢;rw[if_pos hs]at hp ⊢;rw[if_pos hs];omega
 ·have h1:=(sumP_one m r.body).1;have h2:=h.blen;unfold bp at hp ⊢;rw[if_neg hs]at hp ⊢;rw[if_neg hs];omega
theorem usesGo_bd {n:Int}{rs:LG}(h:∀r∈rs,defR n r=true)(a:Int):∀p∈usesGo a 0 rs,0≤p.1∧p.1<(rs.length:Int)∧1≤p.2∧p.2≤1048576:=by
 intro p hp
 obtain⟨k,r,h1,h2,h3⟩:=(usesGo_mem a rs 0 p).1 hp
 have hk:=(List.getElem?_eq_some_iff.1 h1).1
 have:=bp_bd (defR_is (h r (List.mem_of_getElem? h1))) _ h3
 simp only at this;omega
theorem subU_bd (M:Int)(hM:0≤M):∀(l:List (Int×Int))(f:Nat→Int)(j:Nat),(∀p∈l,0≤p.2∧p.2≤M)→f j-M*(l.length:Int)≤subU f l j∧subU f l j≤f j
 |[],f,j,_=>by simp[subU]
 |p::r,f,j,h=>by
  have h1:=h p (by simp);have h2:=subU_bd M hM r (upd f p.1.toNat (f p.1.toNat-p.2)) j fun q hq=>h q (by simp[hq])
  have h3:f j-M≤upd f p.1.toNat (f p.1.toNat-p.2) j∧upd f p.1.toNat (f p.1.toNat-p.2) j≤f j:=by
   unfold upd;split
   ·rename_i e;subst e;omega
   ·omega
  rw[subU,List.length_cons,Int.natCast_add,Int.mul_add];omega
theorem subA_bd {n:Int}{rs:LG}(h:∀r∈rs,defR n r=true):∀(l:LI)(f:Nat→Int)(j:Nat),f j-1048576*((rs.length:Int)*(l.length:Int))≤subA rs f l j∧subA rs f l j≤f j
 |[],f,j=>by simp[subA]
 |a::r,f,j=>by
  have h1:=subU_bd 1048576 (by omega) (usesGo a 0 rs) f j fun p hp=>by have:=usesGo_bd h a p hp;omega
  have h2:=subA_bd h r (subU f (usesGo a 0 rs)) j;have h3:=usesGo_len (n:=n) a rs 0 h;rw[subA,List.length_cons,Int.natCast_add,Int.mul_add]
  have:(1048576:Int)*((usesGo a 0 rs).length:Int)≤1048576*(rs.length:Int):=(by omega)
  omega
theorem subA_app (rs:LG):∀(l:LI)(f:Nat→Int)(a:Int),subA rs f (l++[a])=subU (subA rs f l) (usesGo a 0 rs)
 |[],f,a=>rfl
 |b::r,f,a=>by rw[List.cons_append,subA,subA,subA_app rs r]
theorem take_snoc' {α:Type}{l:List α}{k:Nat}{x:α}(h:l[k]? = some x):l.take (k+1)=l.take k++[x]:=by
 rw[List.take_add_one,h];rfl
theorem subA_take {rs:LG}{f:Nat→Int}{l:LI}{k:Nat}{a:Int}(h:l[k]? = some a):subA rs f (l.take (k+1))=subU (subA rs f (l.take k)) (usesGo a 0 rs):=by
 rw[take_snoc' h,subA_app]
theorem subU_take {f:Nat→Int}{l:List (Int×Int)}{k:Nat}{p:Int×Int}(h:l[k]? = some p):subU f (l.take (k+1))=upd (subU f (l.take k)) p.1.toNat (subU f (l.take k) p.1.toNat-p.2):=by
 rw[take_snoc' h,subU_app];rfl
theorem mid_bd {n:Nat}{rs:LG}(hd:∀r∈rs,defR n r=true)(hl:rs.length≤40000)(hn:n≤4000){f:Nat→Int}(hf:∀j,j<rs.length→-1048576≤f j∧f j≤1048576){l:LI}(hll:l.length≤n)(k m:Nat)(a:Int)(j:Nat)(hj:j<rs.length):
  -1000000000000000000≤subU (subA rs f (l.take k)) ((usesGo a 0 rs).take m) j∧subU (subA rs f (l.take k)) ((usesGo a 0 rs).take m) j≤1048576:=by
 have h1:=subA_bd hd (l.take k) f j;have h2:=subU_bd 1048576 (by omega) ((usesGo a 0 rs).take m) (subA rs f (l.take k)) j fun p hp=>by have:=usesGo_bd hd a p (List.mem_of_mem_take hp);omega
 have h3:=hf j hj
 have h4:((usesGo a 0 rs).take m).length≤40000:=by
  have:=List.length_take_le' m (usesGo a 0 rs)
  have:=usesGo_len (n:=(n:Int)) a rs 0 hd
  omega
 have h5:(l.take k).length≤4000:=by
  have:=List.length_take_le' k l
  omega
 have h6:rs.length*(l.take k).length≤40000*4000:=Nat.mul_le_mul hl h5
 have h7:((rs.length:Int)*((l.take k).length:Int))≤160000000:=by
  have:((rs.length*(l.take k).length:Nat):Int)≤160000000:=(by omega)
  rwa [Int.natCast_mul]at this
 omega
theorem reachL_snoc (rs:LG)(f:Nat→Int)(k:Int)(s:(Nat→Int)×LI)(is:LN)(i:Nat):reachL rs f k s (is++[i])=reachS rs f k (reachL rs f k s is) i:=by
 simp[reachL,List.foldl_append]
theorem reachS_len (rs:LG)(f:Nat→Int)(k:Int)(s:(Nat→Int)×LI)(i:Nat):(reachS rs f k s i).2.length≤s.2.length+1:=by
 unfold reachS;split
 ·split
  ·simp
  ·omega
 ·omega
theorem reachL_len (rs:LG)(f:Nat→Int)(k:Int):∀(is:LN)(s:(Nat→Int)×LI),(reachL rs f k s is).2.length≤s.2.length+is.length
 |[],s=>by simp[reachL]
 |i::r,s=>by
  have h1:=reachL_len rs f k r (reachS rs f k s i);have h2:=reachS_len rs f k s i;have e:reachL rs f k s (i::r)=reachL rs f k (reachS rs f k s i) r:=rfl;rw[e,List.length_cons];omega
theorem usedIs_len {n:Int}{rs:LG}(h:∀r∈rs,defR n r=true):∀(l:LI),(usedIs rs l).length≤l.length*rs.length
 |[]=>by simp[usedIs]
 |a::r=>by
  have h1:=usedIs_len h r;have h2:=usesGo_len (n:=n) a rs 0 h;have e:usedIs rs (a::r)=(usesGo a 0 rs).map (fun p=>p.1.toNat)++usedIs rs r:=by simp[usedIs]
  rw[e,List.length_append,List.length_map,List.length_cons,Nat.add_mul];omega
theorem usedIs_take {rs:LG}{l:LI}{k:Nat}{a:Int}(h:l[k]? = some a):usedIs rs (l.take (k+1))=usedIs rs (l.take k)++(usesGo a 0 rs).map (fun p=>p.1.toNat):=by
 rw[take_snoc' h];simp[usedIs]
theorem map_take {l:List (Int×Int)}{k:Nat}{p:Int×Int}(h:l[k]? = some p):(l.take (k+1)).map (fun p=>p.1.toNat)=(l.take k).map (fun p=>p.1.toNat)++[p.1.toNat]:=by
 rw[take_snoc' h];simp
theorem now_len {n:Nat}{rs:LG}(hd:∀r∈rs,defR n r=true)(hl:rs.length≤40000)(hn:n≤4000){l:LI}(hll:l.length≤n)(f o:Nat→Int)(k:Int)(j m:Nat)(a:Int):
  (reachL rs f k (o,[]) (usedIs rs (l.take j)++((usesGo a 0 rs).take m).map (fun p=>p.1.toNat))).2.length<4398046511104:=by
 have h1:=reachL_len rs f k (usedIs rs (l.take j)++((usesGo a 0 rs).take m).map (fun p=>p.1.toNat)) (o,[]);have h2:=usedIs_len hd (l.take j)
 have h3:((usesGo a 0 rs).take m).length≤40000:=by
  have:=List.length_take_le' m (usesGo a 0 rs)
  have:=usesGo_len (n:=(n:Int)) a rs 0 hd
  omega
 have h5:(l.take j).length≤4000:=by
  have:=List.length_take_le' j l
  omega
 have h6:(l.take j).length*rs.length≤4000*40000:=Nat.mul_le_mul h5 hl;rw[List.length_append,List.length_map]at h1;simp only[List.length_nil]at h1;omega
theorem RInv.len {rs:LG}{n k:Nat}{f o:Nat→Int}{nw:LI}(h:RInv rs n k f o nw):nw.length≤n:=
 nodup_len n nw h.nd fun x hx=>by obtain⟨j,h1,h2,_⟩:=(h.now x).1 hx;omega
theorem RInv.bd {rs:LG}{n k:Nat}{f o:Nat→Int}{nw:LI}(h:RInv rs n k f o nw)(hd:∀r∈rs,defR n r=true):∀j,j<rs.length→-1048576≤f j∧f j≤1048576:=fun j hj=>by
 have e:rs[j]? = some rs[j]:=List.getElem?_eq_getElem hj;rw[h.need j _ e];exact need_bd (defR_is (hd _ (List.mem_of_getElem? e))) _
theorem RInv.mem {rs:LG}{n k:Nat}{f o:Nat→Int}{nw:LI}(h:RInv rs n k f o nw):∀x∈nw,1≤x∧x≤(n:Int):=fun x hx=>by
 obtain⟨j,h1,h2,_⟩:=(h.now x).1 hx;omega
def negS (m:LI):List (Int×Int)→Int
 |[]=>0
 |p::t=>(if p.1≤0∧-p.1∉m then p.2 else 0)+negS m t
def isPos (x:Int):Bool:=decide (0<x)
def badL (m:LI)(x:Int):Bool:=!isPos x && decide (-x∈m)
def dropB (r:GRule)(m:LI):Bool:=!r.sum && r.body.any (badL m)
def posW (l:List (Int×Int)):LI:=(l.filter fun p=>isPos p.1).map Prod.snd
def zp (r:GRule):List (Int×Int):=r.body.zip r.w
def zeroRule:GRule:=⟨false,[],false,0,[],[]⟩
def posRule (r:GRule)(m:LI):GRule:=
 if r.sum then(if r.bound-negS m (zp r)≤0 then zeroRule else⟨false,[],true,r.bound-negS m (zp r),r.body.filter isPos,posW (zp r)⟩)
 else⟨false,[],false,r.bound,r.body.filter isPos,[]⟩
theorem negS_app (m:LI):∀(l:List (Int×Int))(p:Int×Int),negS m (l++[p])=negS m l+(if p.1≤0∧-p.1∉m then p.2 else 0)
 |[],p=>by simp[negS]
 |q::r,p=>by rw[List.cons_append,negS,negS,negS_app m r p];omega
theorem negS_bd (m:LI):∀(xs ys:LI)(k:Nat),(∀y∈ys,0≤y)→0≤negS m ((xs.zip ys).take k)∧negS m ((xs.zip ys).take k)≤ys.sum
 |[],ys,k,h=>by simp[negS];exact sum_nonneg h
 |x::xs,[],k,_=>by simp[negS]
 |x::xs,y::ys,0,h=>by simp[negS];have:=sum_nonneg h;simpa using this
 |x::xs,y::ys,k+1,h=>by
  have h1:=h y (by simp);have h2:=negS_bd m xs ys k fun q hq=>h q (by simp[hq]);simp only[List.zip_cons_cons,List.take_succ_cons,negS,List.sum_cons];split <;> omega
theorem zp_at {r:GRule}{k:Nat}{x y:Int}(hx:r.body[k]? = some x)(hy:r.w[k]? = some y):(zp r)[k]? = some (x,y):=List.getElem?_zip_eq_some.2 ⟨hx,hy⟩
theorem posW_take {l:List (Int×Int)}{k:Nat}{x y:Int}(h:l[k]? = some (x,y)):posW (l.take (k+1))=if isPos x then posW (l.take k)++[y]else posW (l.take k):=by
 rw[take_snoc' h];unfold posW;rw[List.filter_append,List.map_append]
 by_cases h1:isPos x=true <;> simp[h1]
theorem filt_take {l:LI}{k:Nat}{x:Int}(h:l[k]? = some x):(l.take (k+1)).filter isPos=if isPos x then(l.take k).filter isPos++[x]else(l.take k).filter isPos:=by
 rw[take_snoc' h,List.filter_append]
 by_cases h1:isPos x=true <;> simp[h1]
theorem any_take {l:LI}{k:Nat}{x:Int}{p:Int→Bool}(h:l[k]? = some x):(l.take (k+1)).any p=((l.take k).any p || p x):=by
 rw[take_snoc' h,List.any_append];simp
theorem posW_len (l:List (Int×Int)):(posW l).length≤l.length:=by unfold posW;rw[List.length_map];exact List.length_filter_le _ _
theorem posW_mem {l:List (Int×Int)}{y:Int}(h:y∈posW l):∃x,(x,y)∈l:=by
 unfold posW at h
 obtain⟨p,hp,rfl⟩:=List.mem_map.1 h
 exact⟨p.1,(List.mem_filter.1 hp).1⟩
open Go.RowKit Go.Maps
theorem grown_of_below {a w:World}(h:Below a.heap.size a w)(row:Option Nat):a.grownBy w row:=⟨h.os,h.tape,h.output,h.size,fun i hi _=>h.block i hi⟩
def IMap (w:World)(kt:TypeId)(B n:Nat)(f:Lit→Int):Prop:=
 ∃D:DataW Unit,w.ownsMap Tryz.prog kt (plainElem Tryz.prog 3) B n D∧IsMap D∧∀L,WideAt.IsKeyLit L→D.atKey L (.lit (.int .i64 0))=.lit (.int .i64 (f L))
theorem zero_int (w:World):(zeroValue 3).run Tryz.prog w=.ok (.int .i64 0) w:=by kernel_rfl
theorem IMap.new (w:World)(kt:TypeId):IMap (w.alloc (.map #[] 0)) kt w.heap.size 0 (fun _=>0):=
 ⟨.map [],World.ownsMap_made _ _ _ _,isMap_empty,fun _ _=>rfl⟩
theorem IMap.ext {w w':World}{kt:TypeId}{B n:Nat}{f:Lit→Int}(h:IMap w kt B n f)(hb:Below w.heap.size w w'):IMap w' kt B n f:=by
 obtain⟨D,h,r⟩:=h
 exact⟨D,h.kept (grown_of_below hb none) (by simp),r⟩
theorem IMap.mono {w:World}{kt:TypeId}{B n n':Nat}{f:Lit→Int}(h:IMap w kt B n f)(hn:n≤n'):IMap w kt B n' f:=by
 obtain⟨D,h,r⟩:=h
 exact⟨D,h.mono hn,r⟩
theorem IMap.look {w:World}{kt t:TypeId}{B n:Nat}{f:Lit→Int}(h:IMap w kt B n f)(K:Keyed Tryz.prog kt)(ht:Tryz.prog.underlying t=some (.map kt 3)){key:Value}{L:Lit}(hkey:keyOf Tryz.prog kt key=some L)(hL:WideAt.IsKeyLit L):
  (Instr.lookup t (.map (some B)) key false).run Tryz.prog w=.ok (.int .i64 (f L)) w:=by
 obtain⟨D,h,_,hf⟩:=h
 obtain⟨c,hrun,hat,_⟩:=h.lookup_int K ht Tryz.underlying3 (zero_int w) hkey
 have:=hf L hL
 rw[hat]at this;simp only[DataW.lit.injEq,Lit.int.injEq,true_and]at this;rw[hrun,this]
theorem IMap.put {w:World}{kt t:TypeId}{B n:Nat}{f:Lit→Int}(h:IMap w kt B n f)(K:Keyed Tryz.prog kt)(ht:Tryz.prog.underlying t=some (.map kt 3)){key:Value}{L:Lit}(hkey:keyOf Tryz.prog kt key=some L)(hL:WideAt.IsKeyLit L)
  (hn:n<maxLen) (v:Int) (hv:(Lit.int .i64 v).wf=true):
  ∃w' f',(Instr.mapUpdate t (.map (some B)) key (.int .i64 v)).run Tryz.prog w=.ok () w'∧IMap w' kt B (n+1) f'∧f' L=v∧(∀L',L'≠L→f' L'=f L')∧w.grownBy w' (some B):=by
 obtain⟨D,h,hm,hf⟩:=h
 obtain⟨w',hrun,ho,hg⟩:=h.update K ht hn hkey (plainElem_int Tryz.underlying3 hv)
 classical
 refine⟨w',fun L'=>if L'=L then v else f L',hrun,⟨_,ho,hm.put _ _,fun L' hL'=>?_⟩,if_pos rfl,fun L' he=>if_neg he,hg⟩
 by_cases he:L'=L
 ·subst he;simp[atKey_put_same hm hL']
 ·simp[atKey_put_other he,he,hf L' hL']
theorem key_int:Keyed Tryz.prog 3:=int_keyed Tryz.underlying3
theorem key_str:Keyed Tryz.prog 9:=string_keyed Tryz.underlying9
def nlB (s:ByteArray):Bool:=s.data.toList.contains 10
theorem indexByte_nl (l:List UInt8):decide (0≤Lib.indexByte l 10)=l.contains 10∧-1≤Lib.indexByte l 10:=by
 induction l with
 |nil=>exact⟨rfl,by simp[Lib.indexByte]⟩
 |cons b r ih=>
  unfold Lib.indexByte
  by_cases hb:b=10
  ·subst hb;simp
  ·have h1:(b==10)=false:=by simpa using hb
   have h2:(10==b)=false:=(by simpa using fun h:10=b=>hb h.symm);rw[List.contains_cons,h1,h2,← ih.1]
   have:=ih.2
   by_cases h3:Lib.indexByte r 10 = -1
   ·rw[h3];simp
   ·have h4:(Lib.indexByte r 10 == -1)=false:=(by simpa using h3);rw[h4];simp;omega
theorem indexByte_any (s:ByteArray)(w:World):
  Calls Tryz.prog 186 #[.string s,.int .u8 10] w fun e w'=>∃q:Int,e=.returned (.int .i64 q)∧decide (0≤q)=nlB s∧w=w':=by
 go_enter Tryz.func186,Tryz.ntmps186;go_wp2_with fail;rw[run_callFunc_extern Tryz.func202 (by kernel_rfl) (by kernel_rfl) (by kernel_rfl) (e:=Extern.BytealgIndexByte.indexByte) (by kernel_rfl),Lib.run_indexByteString];simp only[Result.andThen];rw[Oper.upon_value];go_wp2;go_ret
 exact⟨_,rfl,(indexByte_nl _).1,rfl⟩
theorem contains_nl (s:ByteArray)(w:World):
  Calls Tryz.prog 86 #[.string s,.string { data:=#[10] }] w fun e w'=>e=.returned (.bool (nlB s))∧w=w':=by
 go_enter Tryz.func86,Tryz.ntmps86;go_wp2_with (first | (go_at_call 186;refine(indexByte_any _ _).mono ?_;rintro e w' ⟨q,rfl,hq,rfl⟩;have HQ:=Zq1 hq;clear hq) | go_in)
 all_goals go_ret
 ·have h:([10]==s.toList)=true:=by assumption
  exact⟨ret_bool (by unfold nlB;rw[ByteArray.toList_eq]at h;rw[← eq_of_beq h];rfl),rfl⟩
 all_goals exact⟨ret_bool (by rw[← HQ.out] <;> first | exact(decide_eq_true (by omega)).symm | exact(decide_eq_false (by omega)).symm),rfl⟩
open Go.RowKit
def idxGo {α:Type}(p:α→Bool)(k:Int):List α→Int
 |[]=>-1
 |x::r=>if p x then k else idxGo p (k+1) r
theorem idxGo_cons {α:Type}(p:α→Bool)(k:Int)(x:α)(r:List α):idxGo p k (x::r)=if p x then k else idxGo p (k+1) r:=rfl
theorem idxGo_any {α:Type}(p:α→Bool):∀(xs:List α)(k:Int),0≤k→decide (0≤idxGo p k xs)=xs.any p
 |[],k,_=>rfl
 |x::r,k,hk=>by
  rw[idxGo_cons,List.any_cons]
  by_cases h:p x=true
  ·rw[if_pos h,h,decide_eq_true hk];rfl
  ·have hf:p x=false:=by simpa using h
   rw[if_neg h,hf,idxGo_any p r (k+1) (by omega),Bool.false_or]
theorem indexFuncI_any (lA:OA)(ll lc:Nat)(xs:LI)(g:FuncId)(cap:Array Value)(p:Int→Bool)(w:World)(h:SlIs intR w lA ll lc xs)(hg:∀args W,(callFunc g args).run Tryz.prog W=.ok (.enter g args) W)
  (hf:∀(W:World) (x:Int),Below w.heap.size w W→x∈xs→I64 x→Calls Tryz.prog g (#[.int .i64 x]++cap) W fun e W'=>e=.returned (.bool (p x))∧Below W.heap.size W W'):
  Calls Tryz.prog 120 #[.slice lA ll lc,.func (.func g) #[] cap] w fun e w'=>e=.returned (.int .i64 (idxGo p 0 xs))∧Below w.heap.size w w':=by
 have hl:=h.cap;have hm:=h.max
 obtain⟨H,HF⟩:=Zq2 h hf;clear h hf
 go_enter Tryz.func120,Tryz.ntmps120;go_wp2_with fail;go_loopw [8] (fun i wr=>∃k:Nat,k≤ll∧i=.int .i64 k∧Below w.heap.size w wr∧idxGo p 0 xs=idxGo p k (xs.drop k)) (fun i _=>ll-(intOf i).toNat)
 case atStart=>exact⟨0,Nat.zero_le _,rfl,Below.refl _ _,rfl⟩
 case round=>
  obtain⟨k,hk,rfl,hbw,hs⟩:=hrel
  have H1:=Zq1 (H.out.ext hbw);have HBW:=Zq1 hbw;clear hbw;have HS:=Zq1 hs;clear hs
  by_cases hlt:k<ll
  ·obtain⟨x,hx,hd⟩:=H.out.drop hlt
   obtain⟨b,off,rfl,_,hcell,hx64⟩:=H1.out.int hx
   have HX64:=Zq1 hx64;clear hx64;have hmem:=List.mem_of_getElem? hx
   obtain⟨HX,HD,HMEM⟩:=Zq3 hx hd hmem;clear hx hd hmem
   by_cases hp:p x=true
   ·have HP:=Zq1 hp;have hc:=hp ▸ HF.out wr x HBW.out HMEM.out HX64.out;clear hp;have HC:=Zq1 hc;clear hc;go_wp2_with fail;go_fit HC.out;rintro e w1 ⟨rfl,hb1⟩;have HB1:=Zq1 (bel_trans HBW.out hb1);clear hb1;go_wp2_with fail;go_ret
    exact⟨ret_int (by rw[HS.out,HD.out,idxGo_cons,if_pos HP.out]),HB1.out⟩
   ·have hpf:p x=false:=(by simpa using hp);have hc:=hpf ▸ HF.out wr x HBW.out HMEM.out HX64.out;clear hp
    obtain⟨HPF,HC⟩:=Zq2 hpf hc;clear hpf hc
    go_wp2_with fail;go_fit HC.out;rintro e w1 ⟨rfl,hb1⟩;have HB1:=Zq1 (bel_trans HBW.out hb1);clear hb1;go_wp2_with fail;go_roundw;exact⟨k+1,by omega,by go_num,HB1.out,by rw[HS.out,HD.out,idxGo_cons,HPF.out];simp⟩;simp[intOf];omega
  ·go_wp2_with fail;go_ret
   exact⟨ret_int (by rw[HS.out,H.out.stop (by omega)];rfl),HBW.out⟩
theorem containsFuncI_any (lA:OA)(ll lc:Nat)(xs:LI)(g:FuncId)(cap:Array Value)(p:Int→Bool)(w:World)(h:SlIs intR w lA ll lc xs)(hg:∀args W,(callFunc g args).run Tryz.prog W=.ok (.enter g args) W)
  (hf:∀(W:World) (x:Int),Below w.heap.size w W→x∈xs→I64 x→Calls Tryz.prog g (#[.int .i64 x]++cap) W fun e W'=>e=.returned (.bool (p x))∧Below W.heap.size W W'):
  Calls Tryz.prog 75 #[.slice lA ll lc,.func (.func g) #[] cap] w fun e w'=>e=.returned (.bool (xs.any p))∧Below w.heap.size w w':=by
 have hi:=indexFuncI_any lA ll lc xs g cap p w h hg hf;have hq:=idxGo_any p xs 0 (by omega);generalize idxGo p 0 xs=q at *
 obtain⟨H,HF,HI,HQ⟩:=Zq4 h hf hi hq;clear h hf hi hq
 go_enter Tryz.func75,Tryz.ntmps75;go_wp2_with fail;go_fit HI.out;rintro e w1 ⟨rfl,hb1⟩;have HB1:=Zq1 hb1;clear hb1;go_wp2_with fail
 all_goals go_ret
 all_goals exact⟨ret_bool (by rw[← HQ.out] <;> first | exact(decide_eq_true (by omega)).symm | exact(decide_eq_false (by omega)).symm),HB1.out⟩
theorem indexFuncR_any (lA:OA)(ll lc:Nat)(xs:LG)(g:FuncId)(cap:Array Value)(p:GRule→Bool)(w:World)(h:SlIs ruleR w lA ll lc xs)(hg:∀args W,(callFunc g args).run Tryz.prog W=.ok (.enter g args) W)
  (hf:∀(W:World) (x:GRule) (hA:OA) (hl hc:Nat) (bA:OA) (bl bc:Nat) (wA:OA) (wl wc:Nat),Below w.heap.size w W→x∈xs→RuleIn W x hA hl hc bA bl bc wA wl wc→Calls Tryz.prog g (#[.agg #[.bool x.choice,.slice hA hl hc,.bool x.sum,.int .i64 x.bound,.slice bA bl bc,.slice wA wl wc]]++cap) W fun e W'=>e=.returned (.bool (p x))∧Below W.heap.size W W'):
  Calls Tryz.prog 97 #[.slice lA ll lc,.func (.func g) #[] cap] w fun e w'=>e=.returned (.int .i64 (idxGo p 0 xs))∧Below w.heap.size w w':=by
 have hl:=h.cap;have hm:=h.max
 obtain⟨H,HF⟩:=Zq2 h hf;clear h hf
 go_enter Tryz.func97,Tryz.ntmps97;go_wp2_with fail;go_loopw [8] (fun i wr=>∃k:Nat,k≤ll∧i=.int .i64 k∧Below w.heap.size w wr∧idxGo p 0 xs=idxGo p k (xs.drop k)) (fun i _=>ll-(intOf i).toNat)
 case atStart=>exact⟨0,Nat.zero_le _,rfl,Below.refl _ _,rfl⟩
 case round=>
  obtain⟨k,hk,rfl,hbw,hs⟩:=hrel
  have H1:=Zq1 (H.out.ext hbw);have HBW:=Zq1 hbw;clear hbw;have HS:=Zq1 hs;clear hs
  by_cases hlt:k<ll
  ·obtain⟨x,hx,hd⟩:=H.out.drop hlt
   obtain⟨b,off,hA,hl,hc,bA,bl,bc,wA,wl,wc,rfl,_,f0,f1,f2,f3,f4,f5,g1,g2,g3,g4⟩:=H1.out.rule hx
   have HR:=Zq1 (show RuleIn wr x hA hl hc bA bl bc wA wl wc from⟨g1,g2,g3,g4⟩);clear g1 g2 g3 g4;have hmem:=List.mem_of_getElem? hx
   obtain⟨HX,HD,HMEM⟩:=Zq3 hx hd hmem;clear hx hd hmem
   by_cases hp:p x=true
   ·have HP:=Zq1 hp;have hct:=hp ▸ HF.out wr x _ _ _ _ _ _ _ _ _ HBW.out HMEM.out HR.out;clear hp;have HCT:=Zq1 hct;clear hct;go_wp2_with fail;go_fit HCT.out;rintro e w1 ⟨rfl,hb1⟩;have HB1:=Zq1 (bel_trans HBW.out hb1);clear hb1;go_wp2_with fail;go_ret
    exact⟨ret_int (by rw[HS.out,HD.out,idxGo_cons,if_pos HP.out]),HB1.out⟩
   ·have hpf:p x=false:=(by simpa using hp);have hct:=hpf ▸ HF.out wr x _ _ _ _ _ _ _ _ _ HBW.out HMEM.out HR.out;clear hp
    obtain⟨HPF,HCT⟩:=Zq2 hpf hct;clear hpf hct
    go_wp2_with fail;go_fit HCT.out;rintro e w1 ⟨rfl,hb1⟩;have HB1:=Zq1 (bel_trans HBW.out hb1);clear hb1;go_wp2_with fail;go_roundw;exact⟨k+1,by omega,by go_num,HB1.out,by rw[HS.out,HD.out,idxGo_cons,HPF.out];simp⟩;simp[intOf];omega
  ·go_wp2_with fail;go_ret
   exact⟨ret_int (by rw[HS.out,H.out.stop (by omega)];rfl),HBW.out⟩
theorem containsFuncR_any (lA:OA)(ll lc:Nat)(xs:LG)(g:FuncId)(cap:Array Value)(p:GRule→Bool)(w:World)(h:SlIs ruleR w lA ll lc xs)(hg:∀args W,(callFunc g args).run Tryz.prog W=.ok (.enter g args) W)
  (hf:∀(W:World) (x:GRule) (hA:OA) (hl hc:Nat) (bA:OA) (bl bc:Nat) (wA:OA) (wl wc:Nat),Below w.heap.size w W→x∈xs→RuleIn W x hA hl hc bA bl bc wA wl wc→Calls Tryz.prog g (#[.agg #[.bool x.choice,.slice hA hl hc,.bool x.sum,.int .i64 x.bound,.slice bA bl bc,.slice wA wl wc]]++cap) W fun e W'=>e=.returned (.bool (p x))∧Below W.heap.size W W'):
  Calls Tryz.prog 65 #[.slice lA ll lc,.func (.func g) #[] cap] w fun e w'=>e=.returned (.bool (xs.any p))∧Below w.heap.size w w':=by
 have hi:=indexFuncR_any lA ll lc xs g cap p w h hg hf;have hq:=idxGo_any p xs 0 (by omega);generalize idxGo p 0 xs=q at *
 obtain⟨H,HF,HI,HQ⟩:=Zq4 h hf hi hq;clear h hf hi hq
 go_enter Tryz.func65,Tryz.ntmps65;go_wp2_with fail;go_fit HI.out;rintro e w1 ⟨rfl,hb1⟩;have HB1:=Zq1 hb1;clear hb1;go_wp2_with fail
 all_goals go_ret
 all_goals exact⟨ret_bool (by rw[← HQ.out] <;> first | exact(decide_eq_true (by omega)).symm | exact(decide_eq_false (by omega)).symm),HB1.out⟩
theorem indexI_any (lA:OA)(ll lc:Nat)(xs:LI)(v:Int)(w:World)(h:SlIs intR w lA ll lc xs):
  Calls Tryz.prog 106 #[.slice lA ll lc,.int .i64 v] w fun e w'=>e=.returned (.int .i64 (idxGo (fun x=>decide (x=v)) 0 xs))∧w=w':=by
 have hl:=h.cap;have hm:=h.max;generalize hp:(fun x=>decide (x=v))=p;have hp2:∀x,p x=decide (x=v):=fun x=>by rw[← hp]
 obtain⟨H,HP,HP2⟩:=Zq3 h hp hp2;clear h hp hp2
 go_enter Tryz.func106,Tryz.ntmps106;go_wp2;go_loop [8] (fun i=>∃k:Nat,k≤ll∧i=.int .i64 k∧idxGo p 0 xs=idxGo p k (xs.drop k)) (fun i=>ll-(intOf i).toNat)
 case atStart=>exact⟨0,Nat.zero_le _,rfl,rfl⟩
 case round=>
  obtain⟨k,hk,rfl,hs⟩:=hrel
  have HS:=Zq1 hs;clear hs
  by_cases hlt:k<ll
  ·obtain⟨x,hx,hd⟩:=H.out.drop hlt
   obtain⟨b,off,rfl,_,hcell,_⟩:=H.out.int hx
   obtain⟨HX,HD⟩:=Zq2 hx hd;clear hx hd
   by_cases he:x=v
   ·have q1:(v==x)=true:=(by simp[he]);have q2:(x==v)=true:=(by simp[he]);have HE:=Zq1 he;clear he;go_wp2;go_ret
    exact⟨ret_int (by rw[HS.out,HD.out,idxGo_cons,HP2.out,if_pos (by simp[HE.out])]),rfl⟩
   ·have q1:(v==x)=false:=(by simp;exact fun h=>he h.symm);have q2:(x==v)=false:=(by simp[he]);have HE:=Zq1 he;clear he;go_wp2;go_round
    case rel=>exact⟨k+1,by omega,by go_num,by rw[HS.out,HD.out,idxGo_cons,HP2.out,if_neg (by simp[HE.out])];rfl⟩
    case measure=>simp[intOf];omega
  ·go_wp2;go_ret
   exact⟨ret_int (by rw[HS.out,H.out.stop (by omega)];rfl),rfl⟩
theorem containsI_any (lA:OA)(ll lc:Nat)(xs:LI)(v:Int)(w:World)(h:SlIs intR w lA ll lc xs):
  Calls Tryz.prog 74 #[.slice lA ll lc,.int .i64 v] w fun e w'=>e=.returned (.bool (decide (v∈xs)))∧w=w':=by
 have hi:=indexI_any lA ll lc xs v w h;have hq:=idxGo_any (fun x=>decide (x=v)) xs 0 (by omega)
 have hq2:xs.any (fun x=>decide (x=v))=decide (v∈xs):=by
  rw[Bool.eq_iff_iff];simp
 rw[hq2]at hq;generalize idxGo (fun x=>decide (x=v)) 0 xs=q at *
 obtain⟨H,HI,HQ,HQ2⟩:=Zq4 h hi hq hq2;clear h hi hq hq2
 go_enter Tryz.func74,Tryz.ntmps74;go_wp2_with fail;go_fit HI.out;rintro e w' ⟨rfl,rfl⟩;go_wp2_with fail
 all_goals go_ret
 all_goals exact⟨ret_bool (by rw[← HQ.out] <;> first | exact(decide_eq_true (by omega)).symm | exact(decide_eq_false (by omega)).symm),rfl⟩
open Go.RowKit Go.Maps Go.WideMaps
theorem set_any (lA:OA)(ll lc:Nat)(xs:LI)(n:Int)(w:World)(h:SlIs intR w lA ll lc xs):
  Calls Tryz.prog 51 #[.slice lA ll lc,.int .i64 n] w fun e w'=>e=.returned (.bool (incB n xs))∧w=w':=by
 have hl:=h.cap;have hm:=h.max;have H:=Zq1 h;clear h;go_enter Tryz.func51,Tryz.ntmps51;go_wp2;go_loop [9] (fun i=>∃k:Nat,k≤ll∧i=.int .i64 k∧incB n xs=atomsGo n (prevAt xs k) (xs.drop k)) (fun i=>ll-(intOf i).toNat)
 case atStart=>exact⟨0,Nat.zero_le _,rfl,incB_atoms _ _⟩
 case round=>
  obtain⟨k,hk,rfl,hs⟩:=hrel
  have HS:=Zq1 hs;clear hs
  by_cases hlt:k<ll
  ·obtain⟨x,hx,hd⟩:=H.out.drop hlt
   obtain⟨b,off,rfl,_,hcell,_⟩:=H.out.int hx
   obtain⟨HX,HD⟩:=Zq2 hx hd;clear hx hd
   by_cases h1:x<1
   ·go_wp2_with fail;go_ret
    exact⟨ret_bool (by rw[HS.out,HD.out,atomsGo_cons,decide_eq_false (show ¬1≤x by omega)];simp),rfl⟩
   ·by_cases h2:n<x
    ·go_wp2_with fail;go_ret
     exact⟨ret_bool (by rw[HS.out,HD.out,atomsGo_cons,decide_eq_false (show ¬x≤n by omega)];simp),rfl⟩
    ·by_cases hk0:k=0
     ·have q1:decide (0<(k:Int))=false:=decide_eq_false (by omega);have q2:decide (0<k)=false:=decide_eq_false (by omega);have HK:=Zq1 hk0;clear hk0;go_wp2_with fail;go_round
      case rel=>exact⟨k+1,by omega,by go_num,by rw[HS.out,HD.out,atomsGo_cons,decide_eq_true (show 1≤x by omega),decide_eq_true (show x≤n by omega),prevAt_succ,HX.out,HK.out];rfl⟩
      case measure=>simp[intOf];omega
     ·obtain⟨j,rfl⟩:∃j,k=j+1:=⟨k-1,by omega⟩
      obtain⟨y,hy,_⟩:=H.out.drop (k:=j) (by omega)
      obtain⟨b2,off2,he2,_,hcell2,_⟩:=H.out.int hy
      cases he2;have HYY:=Zq1 hy;clear hy;have e1:IntKind.i64.wrap ((j:Int)+1-1)=j:=(by rw[IntWalk.i64_in _ (by omega)];omega);have q1:decide (0<(j:Int)+1)=true:=decide_eq_true (by omega);have q2:decide (0<j+1)=true:=decide_eq_true (by omega)
      by_cases h3:x≤y
      ·go_wp2_with fail;go_ret
       exact⟨ret_bool (by rw[HS.out,HD.out,atomsGo_cons,prevAt_succ,HYY.out];have:¬y<x:=(by omega);simp[this]),rfl⟩
      ·go_wp2_with fail;go_round
       case rel=>exact⟨j+2,by omega,by go_num,by rw[HS.out,HD.out,atomsGo_cons,decide_eq_true (show 1≤x by omega),decide_eq_true (show x≤n by omega),prevAt_succ,HYY.out,prevAt_succ,HX.out];have:y<x:=(by omega);simp[this]⟩
       case measure=>simp[intOf];omega
  ·go_wp2;go_ret
   exact⟨ret_bool (by rw[HS.out,H.out.stop (by omega)];rfl),rfl⟩
def MemIn (w:World)(a:Nat)(ms:LI):Prop:=
 ∃B n f,w.cell? ⟨a,0,none⟩=some (.map (some B))∧IMap w 3 B n f∧∀x,decide (0<f (.int .i64 x))=decide (x∈ms)
theorem MemIn.ext {w w':World}{a:Nat}{ms:LI}(h:MemIn w a ms)(hb:Below w.heap.size w w'):MemIn w' a ms:=by
 obtain⟨B,n,f,h1,h2,h3⟩:=h
 exact⟨B,n,f,(hb.cell (World.block_lt_of_cell? w _ h1)).trans h1,h2.ext hb,h3⟩
theorem run_makeMap_hint {P:Program}(t k e:TypeId)(kd:IntKind)(n:Int)(ht:P.underlying t=some (.map k e))(w:World):
  (Instr.makeMap t (some (.int kd n))).run P w=.ok (.map (some w.heap.size)) (w.alloc (.map #[] 0)):=by
 simp[Instr.makeMap,run_underlying ht];rfl
theorem key_of_int {x:Int}(h:I64 x):keyOf Tryz.prog 3 (.int .i64 x)=some (.int .i64 x):=keyOf_int_mk Tryz.underlying3 (WalkArith.wf_i64 (by unfold I64 at h;omega))
theorem member_any (lA:OA)(ll lc:Nat)(xs:LI)(w:World)(h:SlIs intR w lA ll lc xs):
  Calls Tryz.prog 72 #[.slice lA ll lc] w fun e w'=>∃a:Nat,e=.returned (.func (.func 117) #[] #[.pointer (some ⟨a,0,none⟩)])∧MemIn w' a xs∧Below w.heap.size w w':=by
 have hl:=h.cap;have hm:=h.max;have hsm:=h.small;have hmm:=fun W=>run_makeMap_hint (P:=Tryz.prog) 96 3 3 .i64 ll Tryz.underlying96 W;have H:=Zq1 h;clear h;go_enter Tryz.func72,Tryz.ntmps72;go_wp2_with fail;have hstart:IMap ((w.alloc (.map #[] 0)).alloc (.cells #[.map (some w.heap.size)] 96)) 3 w.heap.size 0 (fun _=>0):=(IMap.new w 3).ext (bel_alloc _ _);have HSTART:=Zq1 hstart;clear hstart;go_loopw [11] (fun i wr=>∃(k:Nat) (f:Lit→Int),k≤ll∧i=.int .i64 k∧Below w.heap.size w wr∧IMap wr 3 w.heap.size k f∧wr.cell? ⟨w.heap.size+1,0,none⟩=some (.map (some w.heap.size))∧(∀x,0≤f (.int .i64 x)∧f (.int .i64 x)≤k)∧∀x,decide (0<f (.int .i64 x))=decide (x∈xs.take k)) (fun i _=>ll-(intOf i).toNat)
 case atStart=>exact⟨0,fun _=>0,Nat.zero_le _,rfl,bel_alloc2 _ _ _,HSTART.out,by simp,by simp,by simp⟩
 case round=>
  obtain⟨k,f,hk,rfl,hbw,hmap,hcl,hfb,hf⟩:=hrel
  have H1:=Zq1 (H.out.ext hbw)
  by_cases hlt:k<ll
  ·obtain⟨x,hx,hd⟩:=H.out.drop hlt
   obtain⟨b,off,rfl,_,hcell,hx64⟩:=H1.out.int hx
   have hkey:=key_of_int hx64;have hlk:=hmap.look key_int Tryz.underlying96 hkey trivial;have hfx:=hfb x
   obtain⟨w',f',hput,hmap',hfe,hfn,hgr⟩:=hmap.put key_int Tryz.underlying96 hkey trivial (by unfold maxLen;omega) (f (.int .i64 x)+1) (WalkArith.wf_i64 (by omega))
   have hcl':=hgr.cell hcl (by simp);have hbw':=bel_grown hbw hgr hbw.size (fun j hj=>by cases hj;exact Nat.le_refl _)
   have htk:∀z,(z∈xs.take (k+1))↔(z∈xs.take k∨z=x):=by
    intro z;rw[List.take_add_one,hx];simp
   obtain⟨HX,HD,HX64,HKEY,HBW,HMAP,HFB,HF,HMAP',HFE,HFN,HGR⟩:=Zq12 hx hd hx64 hkey hbw hmap hfb hf hmap' hfe hfn hgr;clear hx hd hx64 hkey hbw hmap hfb hf hmap' hfe hfn hgr
   obtain⟨HCL',HBW',HTK⟩:=Zq3 hcl' hbw' htk;clear hcl' hbw' htk
   go_wp2_with fail;go_roundw
   case rel=>
    refine⟨k+1,f',by omega,by go_num,HBW'.out,HMAP'.out,HCL'.out,fun z=>?_,fun z=>?_⟩
    ·by_cases he:z=x
     ·subst he;rw[HFE.out];omega
     ·have:=HFB.out z
      rw[HFN.out _ (fun hh=>he (by injection hh))];omega
    ·by_cases he:z=x
     ·subst he;rw[HFE.out,decide_eq_true (by omega),decide_eq_true ((HTK.out z).2 (.inr rfl))]
     ·rw[HFN.out _ (fun hh=>he (by injection hh)),HF.out z,Bool.eq_iff_iff];simp only[decide_eq_true_eq,HTK.out z,he,or_false]
   case measure=>simp[intOf];omega
  ·have hfin:MemIn wr (w.heap.size+1) xs:=⟨_,_,f,hcl,hmap,fun x=>by rw[hf x,List.take_of_length_le (by rw[← H.out.len];omega)]⟩
   obtain⟨HBW,HMAP,HFB,HF,HFIN⟩:=Zq5 hbw hmap hfb hf hfin;clear hbw hmap hfb hf hfin
   go_wp2_with fail;refine bodyPost_ret (results_tmp rfl _ _ _) rfl ?_
   exact⟨_,rfl,HFIN.out,HBW.out⟩
theorem memberF_any (x:Int)(a:Nat)(ms:LI)(w:World)(h:MemIn w a ms)(hx:I64 x):
  Calls Tryz.prog 117 #[.int .i64 x,.pointer (some ⟨a,0,none⟩)] w fun e w'=>e=.returned (.bool (decide (x∈ms)))∧w=w':=by
 obtain⟨B,n,f,hcell,hmap,hf⟩:=h
 have hlk:=hmap.look key_int Tryz.underlying96 (key_of_int hx) trivial;have hfx:=hf x;generalize f (.int .i64 x)=q at *
 obtain⟨HMAP,HF,HX,HFX⟩:=Zq4 hmap hf hx hfx;clear hmap hf hx hfx
 go_enter Tryz.func117,Tryz.ntmps117;go_wp2_with fail
 all_goals go_ret
 all_goals exact⟨ret_bool (by rw[← HFX.out] <;> first | exact(decide_eq_true (by omega)).symm | exact(decide_eq_false (by omega)).symm),rfl⟩
theorem holds_any (x:Int)(a:Nat)(ms:LI)(w:World)(h:MemIn w a ms)(hx : -9223372036854775808<x)(hx2:x≤9223372036854775807):
  Calls Tryz.prog 122 #[.int .i64 x,.func (.func 117) #[] #[.pointer (some ⟨a,0,none⟩)]] w fun e w'=>e=.returned (.bool (trueB x ms))∧w=w':=by
 by_cases h0:0<x
 ·have hc:=memberF_any x a ms w h ⟨by omega,by omega⟩
  obtain⟨HC,H⟩:=Zq2 hc h;clear hc h
  go_enter Tryz.func122,Tryz.ntmps122;go_wp2_with fail;go_fit HC.out;rintro e w' ⟨rfl,rfl⟩;go_wp2_with fail;go_ret
  exact⟨ret_bool (by unfold trueB;rw[if_pos h0]),rfl⟩
 ·have hc:=memberF_any (-x) a ms w h ⟨by omega,by omega⟩
  obtain⟨HC,H⟩:=Zq2 hc h;clear hc h
  go_enter Tryz.func122,Tryz.ntmps122;go_wp2_with fail;go_fit HC.out;rintro e w' ⟨rfl,rfl⟩;go_wp2_with fail;go_ret
  exact⟨ret_bool (by unfold trueB;rw[if_neg (by omega)]),rfl⟩
theorem bodyF_any (x:Int)(a b:Nat)(ms:LI)(w:World)(h:MemIn w a ms)(hb:w.cell? ⟨b,0,none⟩=some (.func (.func 117) #[] #[.pointer (some ⟨a,0,none⟩)]))(hx : -9223372036854775808<x)(hx2:x≤9223372036854775807):
  Calls Tryz.prog 121 #[.int .i64 x,.pointer (some ⟨b,0,none⟩)] w fun e w'=>e=.returned (.bool (!trueB x ms))∧w=w':=by
 have hc:=holds_any x a ms w h hx hx2
 obtain⟨HC,H⟩:=Zq2 hc h;clear hc h
 go_enter Tryz.func121,Tryz.ntmps121;go_wp2_with fail;go_fit HC.out;rintro e w' ⟨rfl,rfl⟩;go_wp2_with fail;go_ret
 exact⟨rfl,rfl⟩
theorem any_not {α:Type}(p:α→Bool):∀xs:List α,(!xs.any (fun x=>!p x))=xs.all p
 |[]=>rfl
 |x::r=>by rw[List.any_cons,List.all_cons,← any_not p r];cases p x <;> simp
theorem body_any (r:GRule)(hA:OA)(hl hc:Nat)(bA:OA)(bl bc:Nat)(wA:OA)(wl wc:Nat)(a:Nat)(ms:LI)(w:World)(hr:RuleIn w r hA hl hc bA bl bc wA wl wc)(hm:MemIn w a ms)(ok:BodyOk r):
  Calls Tryz.prog 77 #[.agg #[.bool r.choice,.slice hA hl hc,.bool r.sum,.int .i64 r.bound,.slice bA bl bc,.slice wA wl wc],.func (.func 117) #[] #[.pointer (some ⟨a,0,none⟩)]] w fun e w'=>e=.returned (.bool (bodyB r ms))∧Below w.heap.size w w':=by
 have hbc:=hr.body.cap;have hbm:=hr.body.max;have hwc:=hr.wt.cap;have hwm:=hr.wt.max;have l2:=Zq1 hr.body.len;have l3:=Zq1 hr.wt.len
 obtain⟨HR,HM,OK⟩:=Zq3 hr hm ok;clear hr hm ok
 by_cases hs:r.sum=true
 ·have hlen:=OK.out.len hs;have hwl:wl=bl:=by rw[l3.out,l2.out,hlen]
  subst hwl;have hfin:bodyB r ms=decide (r.bound≤sumT r.body r.w ms):=by unfold bodyB;rw[if_pos hs]
  have hpos:=Zq1 (OK.out.pos hs);have htot:=Zq1 (OK.out.tot hs)
  obtain⟨HFIN,HLEN⟩:=Zq2 hfin hlen;clear hfin hlen
  rw[hs];have HS:=Zq1 hs;clear hs;go_enter Tryz.func77,Tryz.ntmps77;go_wp2_with fail;go_loop [5,19] (fun s i=>∃(k:Nat) (z:Int),k≤wl∧i=.int .i64 k∧s=.int .i64 z∧0≤z∧z+(r.w.drop k).sum≤1099511627776∧sumT r.body r.w ms=z+sumT (r.body.drop k) (r.w.drop k) ms) (fun _ i=>wl-(intOf i).toNat)
  case atStart=>exact⟨0,0,Nat.zero_le _,rfl,rfl,by omega,by simpa using htot.out,by simp⟩
  case round=>
   obtain⟨k,z,hk,rfl,rfl,hz,hzs,hs2⟩:=hrel
   have hdn:=sum_drop_nonneg hpos.out k;have HS2:=Zq1 hs2;clear hs2
   by_cases hlt:k<wl
   ·obtain⟨x,hx,hd⟩:=HR.out.body.drop hlt
    obtain⟨y,hy,hd2⟩:=HR.out.wt.drop hlt
    obtain⟨b,off,rfl,hbz,hcell,hx64⟩:=HR.out.body.int hx
    obtain⟨b2,off2,rfl,hbz2,hcell2,_⟩:=HR.out.wt.int hy
    have hxl:=OK.out.lit x (List.mem_of_getElem? hx);have hx9:x≤9223372036854775807:=hx64.2;have hy0:=hpos.out y (List.mem_of_getElem? hy);have hdn2:=sum_drop_nonneg hpos.out (k+1);rw[hd2,List.sum_cons]at hzs
    obtain⟨HX,HD,HY,HD2⟩:=Zq4 hx hd hy hd2;clear hx hd hy hd2
    clear hx64
    by_cases ht:trueB x ms=true
    ·go_wp2_with fail;go_fit (holds_any x a ms _ (HM.out.ext (bel_alloc2 _ _ _)) hxl hx9);rintro e w' ⟨rfl,rfl⟩;go_wp2_with fail;go_round
     case rel=>exact⟨k+1,z+y,by omega,by go_num,rfl,by omega,by omega,by rw[HS2.out,HD.out,HD2.out,sumT_cons,if_pos ht];omega⟩
     case measure=>simp[intOf];omega
    ·have hf:trueB x ms=false:=(by simpa using ht);clear ht;go_wp2_with fail;go_fit (holds_any x a ms _ (HM.out.ext (bel_alloc2 _ _ _)) hxl hx9);rintro e w' ⟨rfl,rfl⟩;go_wp2_with fail;go_round
     case rel=>exact⟨k+1,z,by omega,by go_num,rfl,by omega,by omega,by rw[HS2.out,HD.out,HD2.out,sumT_cons,hf];simp⟩
     case measure=>simp[intOf];omega
   ·have hfin2:bodyB r ms=decide (r.bound≤z):=by
     rw[HFIN.out,HS2.out,HR.out.body.stop (by omega)];simp[sumT]
    have HFIN2:=Zq1 hfin2;clear hfin2;go_wp2_with fail
    all_goals go_ret
    all_goals exact⟨ret_bool (by rw[HFIN2.out] <;> first | exact(decide_eq_true (by omega)).symm | exact(decide_eq_false (by omega)).symm),bel_alloc2 _ _ _⟩
 ·have hsf:r.sum=false:=by simpa using hs
  clear hs;have hfin:bodyB r ms = !r.body.any (fun x=>!trueB x ms):=by unfold bodyB;rw[hsf,any_not];rfl
  generalize hq:r.body.any (fun x=>!trueB x ms)=q at *
  obtain⟨HFIN,HQ⟩:=Zq2 hfin hq;clear hfin hq
  have hc:=fun W (hb:Below w.heap.size w W) (hcc:W.cell? ⟨w.heap.size+1,0,none⟩=some (.func (.func 117) #[] #[.pointer (some ⟨a,0,none⟩)]))=>HQ.out ▸ containsFuncI_any bA bl bc r.body 121 #[.pointer (some ⟨w.heap.size+1,0,none⟩)] (fun x=>!trueB x ms) W (HR.out.body.ext hb) (fun args W=>by kernel_rfl)
   (fun W' x hb' hx hx64=>(bodyF_any x a (w.heap.size+1) ms W' (HM.out.ext (bel_trans hb hb')) ((hb'.cell (World.block_lt_of_cell? W _ hcc)).trans hcc) (OK.out.lit x hx) hx64.2).mono fun e w' ⟨h1,h2⟩=>⟨h1,by rw[h2];exact Below.refl _ _⟩)
  rw[hsf]
  obtain⟨HSF,HC⟩:=Zq2 hsf hc;clear hsf hc
  go_enter Tryz.func77,Tryz.ntmps77;go_wp2_with fail;go_fit (HC.out _ (bel_alloc2 _ _ _) (by simp));rintro e w1 ⟨rfl,hb1⟩;have HB1:=Zq1 (bel_trans (bel_alloc2 _ _ _) hb1);clear hb1;go_wp2_with fail;go_ret
  exact⟨ret_bool HFIN.out.symm,HB1.out⟩

/- GY -/
import Derived.Test.YthdjkenhkedjjaaGreatG4
import Derived.Lib.SlicesCompact
namespace Go.Proofs.YthdjkenhkedjjaaGreat
structure TS where
 out:List (LI)
 stack:LI
 idx:LI
 low:LI
 on:LI
 cnt:Int
 calls:List (Int×Nat)
def nthZ (l:LI)(a:Int):Int:=l.getD a.toNat 0
def updZ (l:LI)(a v:Int):LI:=l.set a.toNat v
def rowZ (g:List (LI))(a:Int):LI:=g.getD a.toNat []
def offAll:LI→LI→LI
 |on,[]=>on
 |on,b::c=>offAll (updZ on b 0) c
def sortZ (l:LI):LI:=l.mergeSort fun x y=>decide (x≤y)
def tVisit (s:TS)(a:Int)(k:Nat):TS:=
 if k=0∧nthZ s.idx a=0 then { s with cnt:=s.cnt+1,idx:=updZ s.idx a (s.cnt+1),low:=updZ s.low a (s.cnt+1),on:=updZ s.on a 1,stack:=s.stack++[a] } else s
def tNext (s:TS)(a:Int)(k:Nat)(rest:List (Int×Nat))(b:Int):TS:=
 if nthZ s.idx b=0 then { s with calls:=(b,0)::(a,k+1)::rest }
 else if 0<nthZ s.on b then { s with calls:=(a,k+1)::rest,low:=updZ s.low a (min (nthZ s.low a) (nthZ s.idx b)) }
 else { s with calls:=(a,k+1)::rest }
def tUp (s:TS)(a:Int):List (Int×Nat)→TS
 |[]=>{ s with calls:=[] }
 | (u,k)::r=>{ s with calls:=(u,k)::r,low:=updZ s.low u (min (nthZ s.low u) (nthZ s.low a)) }
def tComp (s:TS)(a:Int):TS:=
 if nthZ s.low a=nthZ s.idx a then
  { s with stack:=s.stack.take (s.stack.idxOf a),on:=offAll s.on (s.stack.drop (s.stack.idxOf a)),out:=s.out++[sortZ (s.stack.drop (s.stack.idxOf a))] }
 else s
def tStep (g:List (LI))(s:TS):TS:=
 match s.calls with
 |[]=>s
 | (a,k)::rest=>
  match (rowZ g a)[k]? with
  |some b=>tNext (tVisit s a k) a k rest b
  |none=>tComp (tUp (tVisit s a k) a rest) a
structure GOk (g:List (LI)):Prop where
 len:g.length≤4001
 ent:∀a,∀b∈rowZ g a,1≤b∧b<(g.length:Int)
 deg:∀a,(rowZ g a).length≤4001
def visN (l:LI):Nat:=(l.filter fun v=>decide (v≠0)).length
def zerN (l:LI):Nat:=(l.filter fun v=>decide (v=0)).length
structure TOk (g:List (LI))(s:TS):Prop where
 li:s.idx.length=g.length
 ll:s.low.length=g.length
 lo:s.on.length=g.length
 call:∀f∈s.calls,1≤f.1∧f.1<(g.length:Int)∧f.2≤(rowZ g f.1).length
 rest:∀f∈s.calls.tail,nthZ s.idx f.1≠0
 top:∀f,s.calls.head? = some f→f.2≠0→nthZ s.idx f.1≠0
 sub:((s.calls.map (·.1)).reverse.filter fun a=>decide (nthZ s.idx a≠0)).Sublist s.stack
 nd:s.stack.Nodup
 vis:∀a∈s.stack,1≤a∧a<(g.length:Int)∧nthZ s.idx a≠0
 cnt:s.cnt=(visN s.idx:Int)
structure TVis (g:List (LI))(s:TS)(a:Int)(k:Nat)(rest:List (Int×Nat)):Prop where
 li:s.idx.length=g.length
 ll:s.low.length=g.length
 lo:s.on.length=g.length
 ca:s.calls=(a,k)::rest
 call:∀f∈(a,k)::rest,1≤f.1∧f.1<(g.length:Int)∧f.2≤(rowZ g f.1).length
 seen:∀f∈(a,k)::rest,nthZ s.idx f.1≠0
 sub:((a::rest.map (·.1)).reverse).Sublist s.stack
 nd:s.stack.Nodup
 vis:∀a∈s.stack,1≤a∧a<(g.length:Int)∧nthZ s.idx a≠0
 cnt:s.cnt=(visN s.idx:Int)
theorem nthZ_upd (l:LI)(a b v:Int)(ha:0≤a)(hb:0≤b)(hl:a<(l.length:Int)):nthZ (updZ l a v) b=if a=b then v else nthZ l b:=by
 unfold nthZ updZ;rw[List.getD_eq_getElem?_getD,List.getElem?_set]
 by_cases h:a=b
 ·subst h;rw[if_pos rfl,if_pos rfl,if_pos (by omega)];rfl
 ·rw[if_neg h,if_neg (by omega),List.getD_eq_getElem?_getD]
theorem updZ_len (l:LI)(a v:Int):(updZ l a v).length=l.length:=by unfold updZ;simp
theorem visN_set:∀(l:LI)(i:Nat)(v:Int),i<l.length→l.getD i 0=0→v≠0→visN (l.set i v)=visN l+1∧zerN (l.set i v)+1=zerN l
 |[],i,v,h,_,_=>by simp at h
 |x::t,0,v,h,h0,hv=>by
  have:x=0:=by simpa using h0
  subst this;simp[visN,zerN,hv]
 |x::t,i+1,v,h,h0,hv=>by
  have ih:=visN_set t i v (by simpa using h) (by simpa using h0) hv;unfold visN zerN at ih ⊢
  by_cases hx:x=0 <;> simp[hx]at ih ⊢ <;> omega
theorem visN_le (l:LI):visN l≤l.length:=List.length_filter_le _ _
theorem tVisit_ok {g:List (LI)}{s:TS}{a:Int}{k:Nat}{rest:List (Int×Nat)}(h:TOk g s)(hc:s.calls=(a,k)::rest):TVis g (tVisit s a k) a k rest:=by
 have hcall:=h.call;have hrest:=h.rest;have htop:=h.top (a,k) (by rw[hc];rfl);have hsub:=h.sub;rw[hc]at hcall hrest hsub;simp only[List.tail_cons]at hrest
 obtain⟨a1,a2,a3⟩:=hcall (a,k) (List.mem_cons_self ..)
 simp only at a1 a2 a3
 have hrf:(rest.map (·.1)).reverse.filter (fun a=>decide (nthZ s.idx a≠0))=(rest.map (·.1)).reverse:=List.filter_eq_self.2 fun x hx=>by
  rw[List.mem_reverse]at hx
  obtain⟨f,hf,rfl⟩:=List.mem_map.1 hx
  exact decide_eq_true (hrest f hf)
 rw[List.map_cons,List.reverse_cons,List.filter_append,hrf]at hsub;unfold tVisit
 by_cases hv:k=0∧nthZ s.idx a=0
 ·rw[if_pos hv]
  obtain⟨-,hv⟩:=hv
  have hne:∀x,nthZ s.idx x≠0→a≠x:=fun x hx e=>hx (e ▸ hv);have hcn:s.cnt+1≠0:=by have:=h.cnt;omega
  have hset:=visN_set s.idx a.toNat (s.cnt+1) (by have:=h.li;omega) hv hcn;have hup:∀x,0≤x→nthZ (updZ s.idx a (s.cnt+1)) x=if a=x then s.cnt+1 else nthZ s.idx x:=fun x hx=>nthZ_upd _ _ _ _ (by omega) hx (by have:=h.li;omega)
  refine⟨by rw[updZ_len];exact h.li,by rw[updZ_len];exact h.ll,by rw[updZ_len];exact h.lo,hc,hcall,fun f hf=>?_,?_,?_,fun x hx=>?_,?_⟩
  ·have:=hcall f hf
   rw[hup _ (by omega)];rcases List.mem_cons.1 hf with rfl | hf
   ·rw[if_pos rfl];exact hcn
   ·rw[if_neg (hne _ (hrest f hf))];exact hrest f hf
  ·simp only[List.filter_cons,hv,ne_eq,not_true,decide_false,Bool.false_eq_true,if_false,List.filter_nil,List.append_nil]at hsub;rw[List.reverse_cons];exact hsub.append (List.Sublist.refl _)
  ·rw[List.nodup_append]
   exact⟨h.nd,by simp,fun x hx y hy=>by simp at hy;subst hy;exact fun e=>hne x (h.vis x hx).2.2 e.symm⟩
  ·rcases List.mem_append.1 hx with hx | hx
   ·have:=h.vis x hx
    refine⟨this.1,this.2.1,?_⟩
    rw[hup _ (by omega),if_neg (hne _ this.2.2)];exact this.2.2
   ·simp at hx;subst hx
    refine⟨a1,a2,?_⟩
    rw[hup _ (by omega),if_pos rfl];exact hcn
  ·show s.cnt+1=(visN (updZ s.idx a (s.cnt+1)):Int);unfold updZ;rw[hset.1,h.cnt];omega
 ·rw[if_neg hv]
  have hv':nthZ s.idx a≠0:=fun e=>by
   by_cases hk:k=0
   ·exact hv ⟨hk,e⟩
   ·exact htop hk e
  refine⟨h.li,h.ll,h.lo,hc,hcall,fun f hf=>?_,?_,h.nd,h.vis,h.cnt⟩
  ·rcases List.mem_cons.1 hf with rfl | hf
   ·exact hv'
   ·exact hrest f hf
  ·have e:[a].filter (fun a=>decide (nthZ s.idx a≠0))=[a]:=by simp[hv']
   rw[e]at hsub;rw[List.reverse_cons];exact hsub
def costF (g:List (LI))(idx:LI)(f:Int×Nat):Nat:=if nthZ idx f.1=0 then 1 else 2*((rowZ g f.1).length-f.2)+1
def tMeas (g:List (LI))(s:TS):Nat:=8004*zerN s.idx+(s.calls.map (costF g s.idx)).sum
theorem tVisit_meas {g:List (LI)}(hg:GOk g){s:TS}{a:Int}{k:Nat}{rest:List (Int×Nat)}(h:TOk g s)(hc:s.calls=(a,k)::rest):tMeas g (tVisit s a k)≤tMeas g s:=by
 unfold tVisit
 by_cases hv:k=0∧nthZ s.idx a=0
 ·rw[if_pos hv];have hcall:=h.call;have hrest:=h.rest;rw[hc]at hcall hrest
  obtain⟨a1,a2,a3⟩:=hcall (a,k) (List.mem_cons_self ..)
  simp only at a1 a2 a3;have hcn:s.cnt+1≠0:=by have:=h.cnt;omega
  have hset:=visN_set s.idx a.toNat (s.cnt+1) (by have:=h.li;omega) hv.2 hcn;have hup:∀x,0≤x→nthZ (updZ s.idx a (s.cnt+1)) x=if a=x then s.cnt+1 else nthZ s.idx x:=fun x hx=>nthZ_upd _ _ _ _ (by omega) hx (by have:=h.li;omega);unfold tMeas;simp only[hc,List.map_cons,List.sum_cons]
  have e1:rest.map (costF g (updZ s.idx a (s.cnt+1)))=rest.map (costF g s.idx):=List.map_congr_left fun f hf=>by
   unfold costF
   have:=hcall f (List.mem_cons_of_mem _ hf)
   have hne:a≠f.1:=fun e=>hrest f hf (by rw[← e];exact hv.2);rw[hup _ (by omega),if_neg hne]
  have e2:costF g (updZ s.idx a (s.cnt+1)) (a,k)≤8003:=by
   unfold costF
   have:=hg.deg a
   split
   ·omega
   ·simp only[];omega
  have e3:zerN (updZ s.idx a (s.cnt+1))+1=zerN s.idx:=hset.2;rw[e1];omega
 ·rw[if_neg hv];exact Nat.le_refl _
theorem tNext_ok {g:List (LI)}(hg:GOk g){s:TS}{a:Int}{k:Nat}{rest:List (Int×Nat)}(h:TVis g s a k rest){b:Int}(hb:(rowZ g a)[k]? = some b):TOk g (tNext s a k rest b)∧tMeas g (tNext s a k rest b)<tMeas g s:=by
 obtain⟨b1,b2⟩:=hg.ent a b (List.mem_of_getElem? hb)
 have hk:k<(rowZ g a).length:=(List.getElem?_eq_some_iff.1 hb).1;have ha:=h.seen (a,k) (List.mem_cons_self ..)
 have hrf:(rest.map (·.1)).reverse.filter (fun a=>decide (nthZ s.idx a≠0))=(rest.map (·.1)).reverse:=List.filter_eq_self.2 fun x hx=>by
  rw[List.mem_reverse]at hx
  obtain⟨f,hf,rfl⟩:=List.mem_map.1 hx
  exact decide_eq_true (h.seen f (List.mem_cons_of_mem _ hf))
 have hca:=h.call
 have c1:∀f∈(a,k+1)::rest,1≤f.1∧f.1<(g.length:Int)∧f.2≤(rowZ g f.1).length:=fun f hf=>by
  rcases List.mem_cons.1 hf with rfl | hf
  ·have:=hca (a,k) (List.mem_cons_self ..)
   exact⟨this.1,this.2.1,hk⟩
  ·exact hca f (List.mem_cons_of_mem _ hf)
 have c2:∀f∈(a,k+1)::rest,nthZ s.idx f.1≠0:=fun f hf=>by
  rcases List.mem_cons.1 hf with rfl | hf
  ·exact ha
  ·exact h.seen f (List.mem_cons_of_mem _ hf)
 have s1:((((a,k+1)::rest).map (·.1)).reverse.filter fun a=>decide (nthZ s.idx a≠0)).Sublist s.stack:=by
  rw[List.filter_eq_self.2 fun x hx=>by
   rw[List.mem_reverse]at hx
   obtain⟨f,hf,rfl⟩:=List.mem_map.1 hx
   exact decide_eq_true (c2 f hf)]
  exact h.sub
 have ca:costF g s.idx (a,k)=2*((rowZ g a).length-k)+1:=by unfold costF;rw[if_neg ha]
 have ca':costF g s.idx (a,k+1)=2*((rowZ g a).length-(k+1))+1:=by unfold costF;rw[if_neg ha]
 unfold tNext
 by_cases h1:nthZ s.idx b=0
 ·rw[if_pos h1]
  refine⟨⟨h.li,h.ll,h.lo,fun f hf=>?_,c2,fun f hf h0=>?_,?_,h.nd,h.vis,h.cnt⟩,?_⟩
  ·rcases List.mem_cons.1 hf with rfl | hf
   ·exact⟨b1,b2,Nat.zero_le _⟩
   ·exact c1 f hf
  ·injection hf with hf;subst hf;exact absurd rfl h0
  ·rw[List.map_cons,List.reverse_cons,List.filter_append];have e:[b].filter (fun a=>decide (nthZ s.idx a≠0))=[]:=(by simp[h1]);show (List.filter _ _++[b].filter (fun a=>decide (nthZ s.idx a≠0))).Sublist s.stack;rw[e,List.append_nil];exact s1
  ·unfold tMeas;have e:costF g s.idx (b,0)=1:=(by unfold costF;rw[if_pos h1]);simp only[h.ca,List.map_cons,List.sum_cons,ca,ca',e];omega
 ·rw[if_neg h1]
  by_cases h2:0<nthZ s.on b
  ·rw[if_pos h2]
   refine⟨⟨h.li,by rw[updZ_len];exact h.ll,h.lo,c1,fun f hf=>h.seen f (List.mem_cons_of_mem _ hf),fun f hf _=>?_,s1,h.nd,h.vis,h.cnt⟩,?_⟩
   ·injection hf with hf;subst hf;exact ha
   ·unfold tMeas;simp only[h.ca,List.map_cons,List.sum_cons,ca,ca'];omega
  ·rw[if_neg h2]
   refine⟨⟨h.li,h.ll,h.lo,c1,fun f hf=>h.seen f (List.mem_cons_of_mem _ hf),fun f hf _=>?_,s1,h.nd,h.vis,h.cnt⟩,?_⟩
   ·injection hf with hf;subst hf;exact ha
   ·unfold tMeas;simp only[h.ca,List.map_cons,List.sum_cons,ca,ca'];omega
theorem offAll_len:∀(c on:LI),(offAll on c).length=on.length
 |[],on=>rfl
 |b::c,on=>by rw[offAll,offAll_len c,updZ_len]
theorem tUp_ok {g:List (LI)}{s:TS}{a:Int}{k:Nat}{rest:List (Int×Nat)}(h:TVis g s a k rest):TOk g (tUp s a rest)∧tMeas g (tUp s a rest)<tMeas g s∧((a::(tUp s a rest).calls.map (·.1)).reverse).Sublist (tUp s a rest).stack∧(∀f∈(tUp s a rest).calls,nthZ (tUp s a rest).idx f.1≠0)∧nthZ (tUp s a rest).idx a≠0:=by
 have ha:=h.seen (a,k) (List.mem_cons_self ..);have ca:1≤costF g s.idx (a,k):=by unfold costF;split <;> omega
 have hrf:(rest.map (·.1)).reverse.filter (fun a=>decide (nthZ s.idx a≠0))=(rest.map (·.1)).reverse:=List.filter_eq_self.2 fun x hx=>by
  rw[List.mem_reverse]at hx
  obtain⟨f,hf,rfl⟩:=List.mem_map.1 hx
  exact decide_eq_true (h.seen f (List.mem_cons_of_mem _ hf))
 have hsub:=h.sub
 have hs2:((rest.map (·.1)).reverse).Sublist s.stack:=by
  rw[List.reverse_cons]at hsub
  exact(List.sublist_append_left _ _).trans hsub
 have hr:∀f∈rest,nthZ s.idx f.1≠0:=fun f hf=>h.seen f (List.mem_cons_of_mem _ hf)
 cases rest with
 |nil=>
  refine⟨⟨h.li,h.ll,h.lo,fun f hf=>(by cases hf),fun f hf=>(by cases hf),fun f hf=>(by cases hf),by simp[tUp],h.nd,h.vis,h.cnt⟩,?_,hsub,fun f hf=>(by cases hf),ha⟩
  unfold tMeas tUp;simp only[h.ca,List.map_cons,List.sum_cons,List.map_nil,List.sum_nil];omega
 |cons u r=>
  obtain⟨u,j⟩:=u
  refine⟨⟨h.li,by unfold tUp;rw[updZ_len];exact h.ll,h.lo,fun f hf=>h.call f (List.mem_cons_of_mem _ hf),fun f hf=>hr f (List.mem_cons_of_mem _ hf),fun f hf _=>?_,?_,h.nd,h.vis,h.cnt⟩,?_,hsub,hr,ha⟩
  ·injection hf with hf;subst hf;exact hr _ (List.mem_cons_self ..)
  ·show (List.filter (fun a=>decide (nthZ s.idx a≠0)) ((((u,j)::r).map (·.1)).reverse)).Sublist s.stack;rw[hrf];exact hs2
  ·unfold tMeas tUp;simp only[h.ca,List.map_cons,List.sum_cons];omega
theorem sub_take (st l:LI)(a:Int)(hn:st.Nodup)(h:(l++[a]).Sublist st):l.Sublist (st.take (st.idxOf a))∧a∈st:=by
 obtain⟨r1,r2,rfl,h1,h2⟩:=List.append_sublist_iff.1 h
 have ha2:a∈r2:=h2.subset (by simp);have ha1:a∉r1:=fun h=>(List.nodup_append.1 hn).2.2 a h a ha2 rfl
 refine⟨?_,List.mem_append.2 (.inr ha2)⟩
 rw[List.idxOf_append,if_neg ha1,List.take_append];refine h1.trans ?_;rw[List.take_of_length_le (by omega)];exact List.sublist_append_left _ _
theorem tComp_ok {g:List (LI)}{s:TS}{a:Int}(h:TOk g s)(hs:((a::s.calls.map (·.1)).reverse).Sublist s.stack)(hv:∀f∈s.calls,nthZ s.idx f.1≠0):TOk g (tComp s a)∧tMeas g (tComp s a)=tMeas g s:=by
 unfold tComp
 by_cases h1:nthZ s.low a=nthZ s.idx a
 ·rw[if_pos h1];rw[List.reverse_cons]at hs;have ht:=sub_take _ _ _ h.nd hs
  refine⟨⟨h.li,h.ll,by rw[offAll_len];exact h.lo,h.call,h.rest,h.top,?_,h.nd.sublist (List.take_sublist _ _),fun x hx=>h.vis x (List.mem_of_mem_take hx),h.cnt⟩,rfl⟩
  rw[List.filter_eq_self.2 fun x hx=>by
   rw[List.mem_reverse]at hx
   obtain⟨f,hf,rfl⟩:=List.mem_map.1 hx
   exact decide_eq_true (hv f hf)]
  exact ht.1
 ·rw[if_neg h1];exact⟨h,rfl⟩
theorem tStep_ok {g:List (LI)}(hg:GOk g){s:TS}(h:TOk g s)(hc:s.calls≠[]):TOk g (tStep g s)∧tMeas g (tStep g s)<tMeas g s:=by
 unfold tStep
 match hs:s.calls,hc with
 | (a,k)::rest,_=>
  have hv:=tVisit_ok h hs;have hm:=tVisit_meas hg h hs;simp only[]
  cases hb:(rowZ g a)[k]? with
  |some b=>
   have:=tNext_ok hg hv hb
   exact⟨this.1,by simp only[];omega⟩
  |none=>
   have hu:=tUp_ok hv
   have:=tComp_ok hu.1 hu.2.2.1 hu.2.2.2.1
   exact⟨this.1,by simp only[];omega⟩
def tIter (g:List (LI)):Nat→TS→TS
 |0,s=>s
 |n+1,s=>tIter g n (tStep g s)
theorem tIter_done {g:List (LI)}:∀(n:Nat){s:TS},s.calls=[]→tIter g n s=s
 |0,s,_=>rfl
 |n+1,s,h=>by
  have:tStep g s=s:=by unfold tStep;rw[h]
  rw[tIter,this,tIter_done n h]
theorem tIter_add {g:List (LI)}:∀(m n:Nat)(s:TS),tIter g (m+n) s=tIter g n (tIter g m s)
 |0,n,s=>by rw[Nat.zero_add];rfl
 |m+1,n,s=>by rw[Nat.add_right_comm,tIter,tIter_add m n,tIter]
theorem tIter_same {g:List (LI)}{m n:Nat}{s:TS}(h1:(tIter g m s).calls=[])(h2:(tIter g n s).calls=[]):tIter g m s=tIter g n s:=by
 rcases Nat.le_total m n with h | h
 ·rw[show n=m+(n-m) by omega,tIter_add,tIter_done _ h1]
 ·rw[show m=n+(m-n) by omega,tIter_add,tIter_done _ h2]
inductive Rch (g:List (LI)):Int→Int→Prop
 |refl (a:Int):Rch g a a
 |step {a b c:Int} (h:b∈rowZ g a) (k:Rch g b c):Rch g a c
theorem Rch.trans {g:List (LI)}{a b c:Int}(h:Rch g a b)(k:Rch g b c):Rch g a c:=by
 induction h with
 |refl a=>exact k
 |step h _ ih=>exact .step h (ih k)
theorem Rch.edge {g:List (LI)}{a b:Int}(h:b∈rowZ g a):Rch g a b:=.step h (.refl b)
structure SegP (g:List (LI))(s:TS)(hi:Int)(a:Int)(m:Nat):Prop where
 mem:a∈s.stack
 lt:nthZ s.idx a<hi
 low:nthZ s.low a≤nthZ s.idx a
 at_:∃y∈s.stack,nthZ s.idx y=nthZ s.low a∧Rch g a y
 up:∀x∈s.stack,nthZ s.idx a≤nthZ s.idx x→nthZ s.idx x<hi→Rch g a x
 blk:∀x∈s.stack,nthZ s.idx a≤nthZ s.idx x→nthZ s.idx x<hi→x≠a→∃y∈s.stack,nthZ s.idx y<nthZ s.idx x∧Rch g x y∧nthZ s.low a≤nthZ s.idx y
 edg:∀x∈s.stack,nthZ s.idx a≤nthZ s.idx x→nthZ s.idx x<hi→x≠a→∀y∈rowZ g x,nthZ s.idx y≠0∧(y∈s.stack→nthZ s.low a≤nthZ s.idx y)
 own:∀i y,i<m→(rowZ g a)[i]? = some y→nthZ s.idx y≠0∧(y∈s.stack→nthZ s.low a≤nthZ s.idx y)
def SegR (g:List (LI))(s:TS):Int→Int→List (Int×Nat)→Prop
 |hi,_,[]=>∀x∈s.stack,hi≤nthZ s.idx x
 |hi,b,(u,j)::r=>(∃i,j=i+1∧(rowZ g u)[i]? = some b∧SegP g s hi u i)∧SegR g s (nthZ s.idx u) u r
structure Trn (s s':TS)(hi:Int):Prop where
 t1:∀x∈s.stack,nthZ s.idx x<hi→x∈s'.stack
 t2:∀x∈s'.stack,nthZ s'.idx x<hi→x∈s.stack
 t2':∀x∈s'.stack,nthZ s.idx x≠0→x∈s.stack
 t3:∀x,nthZ s.idx x≠0→nthZ s'.idx x=nthZ s.idx x
 t4:∀x∈s.stack,nthZ s.idx x<hi→nthZ s'.low x=nthZ s.low x
theorem Trn.less {s s':TS}{hi lo:Int}(h:Trn s s' hi)(hl:lo≤hi):Trn s s' lo:=
 ⟨fun x hx k=>h.t1 x hx (by omega),fun x hx k=>h.t2 x hx (by omega),h.t2',h.t3,fun x hx k=>h.t4 x hx (by omega)⟩
theorem SegP.trn {g:List (LI)}{s s':TS}{hi a:Int}{m:Nat}(h:SegP g s hi a m)(hv:∀x∈s.stack,nthZ s.idx x≠0)(t:Trn s s' hi):SegP g s' hi a m:=by
 have ea:=t.t3 a (hv a h.mem);have el:=t.t4 a h.mem h.lt
 have back:∀x∈s'.stack,nthZ s'.idx x<hi→x∈s.stack∧nthZ s'.idx x=nthZ s.idx x:=fun x hx hl=>by
  have:=t.t2 x hx hl
  exact⟨this,t.t3 x (hv x this)⟩
 refine⟨t.t1 a h.mem h.lt,by rw[ea];exact h.lt,by rw[ea,el];exact h.low,?_,fun x hx h1 h2=>?_,fun x hx h1 h2 hne=>?_,fun x hx h1 h2 hne y hy=>?_,fun i y hi hy=>?_⟩
 ·obtain⟨y,hy,e,r⟩:=h.at_
  have:=h.low
  have:=h.lt
  exact⟨y,t.t1 y hy (by omega),by rw[t.t3 y (hv y hy),el];exact e,r⟩
 ·obtain⟨b1,b2⟩:=back x hx h2
  rw[ea,b2]at h1;rw[b2]at h2;exact h.up x b1 h1 h2
 ·obtain⟨b1,b2⟩:=back x hx h2
  rw[ea,b2]at h1;rw[b2]at h2
  obtain⟨y,hy,e,r,l⟩:=h.blk x b1 h1 h2 hne
  exact⟨y,t.t1 y hy (by omega),by rw[t.t3 y (hv y hy),b2];exact e,r,by rw[t.t3 y (hv y hy),el];exact l⟩
 ·obtain⟨b1,b2⟩:=back x hx h2
  rw[ea,b2]at h1;rw[b2]at h2
  obtain⟨e,l⟩:=h.edg x b1 h1 h2 hne y hy
  exact⟨by rw[t.t3 y e];exact e,fun hm=>by rw[t.t3 y e,el];exact l (t.t2' y hm e)⟩
 ·obtain⟨e,l⟩:=h.own i y hi hy
  exact⟨by rw[t.t3 y e];exact e,fun hm=>by rw[t.t3 y e,el];exact l (t.t2' y hm e)⟩
theorem SegR.trn {g:List (LI)}{s s':TS}(hv:∀x∈s.stack,nthZ s.idx x≠0):∀{r:List (Int×Nat)}{hi b:Int},SegR g s hi b r→Trn s s' hi→SegR g s' hi b r
 |[],hi,b,h,t=>fun x hx=>by
  by_cases hl:nthZ s'.idx x<hi
  ·have h1:=t.t2 x hx hl
   have:=h x h1
   rw[t.t3 x (hv x h1)]at hl;omega
  ·omega
 | (u,j)::r,hi,b,h,t=>by
  obtain⟨⟨i,e,hb,hp⟩,hr⟩:=h
  refine⟨⟨i,e,hb,hp.trn hv t⟩,?_⟩
  rw[t.t3 u (hv u hp.mem)];exact SegR.trn hv hr (t.less (by have:=hp.lt;omega))
def HeadI (g:List (LI))(s:TS):Prop:=
 match s.calls with
 |[]=>s.stack=[]
 | (a,k)::rest=>(nthZ s.idx a=0∧k=0∧SegR g s (s.cnt+1) a rest)∨(nthZ s.idx a≠0∧SegP g s (s.cnt+1) a k∧SegR g s (nthZ s.idx a) a rest)
structure TCo (g:List (LI))(s:TS):Prop where
 ord:s.stack.Pairwise fun x y=>nthZ s.idx x<nthZ s.idx y
 bd:∀x∈s.stack,nthZ s.idx x≤s.cnt
 on:∀x,1≤x→x<(g.length:Int)→(0<nthZ s.on x↔x∈s.stack)
 all:∀x,1≤x→x<(g.length:Int)→nthZ s.idx x≠0→x∈s.stack∨∃c∈s.out,x∈c
 outv:∀c∈s.out,∀x∈c,1≤x∧x<(g.length:Int)∧nthZ s.idx x≠0∧x∉s.stack
 dis:s.out.Pairwise fun c d=>∀x∈c,x∉d
 inc:∀c∈s.out,c≠[]∧c.Pairwise (· < ·)
 scc:∀c∈s.out,∀x∈c,∀y∈c,Rch g x y
 cl:∀(i:Nat) c,s.out[i]? = some c→∀x∈c,∀y∈rowZ g x,∃j≤i,∃d,s.out[j]? = some d∧y∈d
theorem visit_co {g:List (LI)}{s:TS}{a:Int}{k:Nat}{rest:List (Int×Nat)}(h:TOk g s)(c:TCo g s)(hh:HeadI g s)(hc:s.calls=(a,k)::rest):
  TCo g (tVisit s a k)∧SegP g (tVisit s a k) ((tVisit s a k).cnt+1) a k∧SegR g (tVisit s a k) (nthZ (tVisit s a k).idx a) a rest:=by
 have hcall:=h.call;rw[hc]at hcall
 obtain⟨a1,a2,a3⟩:=hcall (a,k) (List.mem_cons_self ..)
 simp only at a1 a2 a3;unfold HeadI at hh;rw[hc]at hh;unfold tVisit;rcases hh with⟨h0,hk,hr⟩ | ⟨h0,hp,hr⟩
 ·rw[if_pos ⟨hk,h0⟩];subst hk;have hcn:s.cnt+1≠0:=by have:=h.cnt;omega
  have hup:∀x,0≤x→nthZ (updZ s.idx a (s.cnt+1)) x=if a=x then s.cnt+1 else nthZ s.idx x:=fun x hx=>nthZ_upd _ _ _ _ (by omega) hx (by have:=h.li;omega);have hlw:∀x,0≤x→nthZ (updZ s.low a (s.cnt+1)) x=if a=x then s.cnt+1 else nthZ s.low x:=fun x hx=>nthZ_upd _ _ _ _ (by omega) hx (by have:=h.ll;omega);have hon:∀x,0≤x→nthZ (updZ s.on a 1) x=if a=x then 1 else nthZ s.on x:=fun x hx=>nthZ_upd _ _ _ _ (by omega) hx (by have:=h.lo;omega);have hne:∀x,nthZ s.idx x≠0→a≠x:=fun x hx e=>hx (by rw[← e];exact h0);have hsv:∀x∈s.stack,nthZ s.idx x≠0:=fun x hx=>(h.vis x hx).2.2
  have hidx:∀x,nthZ s.idx x≠0→nthZ (updZ s.idx a (s.cnt+1)) x=nthZ s.idx x:=fun x hx=>by
   by_cases hx0:0≤x
   ·rw[hup x hx0,if_neg (hne x hx)]
   ·have e:x.toNat=0:=(by omega);unfold nthZ updZ;rw[List.getD_eq_getElem?_getD,List.getElem?_set,if_neg (by omega),List.getD_eq_getElem?_getD]
  have hea:nthZ (updZ s.idx a (s.cnt+1)) a=s.cnt+1:=by rw[hup a (by omega),if_pos rfl]
  have hla:nthZ (updZ s.low a (s.cnt+1)) a=s.cnt+1:=by rw[hlw a (by omega),if_pos rfl]
  have hnew:∀x∈s.stack++[a],x∈s.stack∨x=a:=fun x hx=>by
   rcases List.mem_append.1 hx with h | h
   ·exact .inl h
   ·exact .inr (by simpa using h)
  refine⟨⟨?_,fun x hx=>?_,fun x h1 h2=>?_,fun x h1 h2 hx=>?_,fun d hd x hx=>?_,c.dis,c.inc,c.scc,c.cl⟩,⟨by simp,?_,?_,⟨a,by simp,?_,.refl a⟩,fun x hx h1 h2=>?_,fun x hx h1 h2 hn=>?_,fun x hx h1 h2 hn=>?_,fun i y hi=>by omega⟩,?_⟩
  ·rw[List.pairwise_append]
   refine⟨c.ord.imp_of_mem fun {x y} hx hy hl=>?_,by simp,fun x hx y hy=>?_⟩
   ·rw[hidx x (hsv x hx),hidx y (hsv y hy)];exact hl
   ·simp at hy;subst hy;rw[hidx x (hsv x hx),hea];have:=c.bd x hx;omega
  ·rcases hnew x hx with hx | rfl
   ·show nthZ (updZ s.idx a (s.cnt+1)) x≤s.cnt+1;rw[hidx x (hsv x hx)];have:=c.bd x hx;omega
   ·show nthZ (updZ s.idx x (s.cnt+1)) x≤s.cnt+1;rw[hea];omega
  ·show 0<nthZ (updZ s.on a 1) x↔x∈s.stack++[a];rw[hon x (by omega),List.mem_append]
   by_cases e:a=x
   ·subst e;simp
   ·rw[if_neg e,c.on x h1 h2];simp[Ne.symm e]
  ·rw[hup x (by omega)]at hx
   by_cases e:a=x
   ·subst e;exact .inl (by simp)
   ·rw[if_neg e]at hx;rcases c.all x h1 h2 hx with h | h
    ·exact .inl (List.mem_append.2 (.inl h))
    ·exact .inr h
  ·obtain⟨o1,o2,o3,o4⟩:=c.outv d hd x hx
   refine⟨o1,o2,by rw[hidx x o3];exact o3,fun hm=>?_⟩
   rcases hnew x hm with h | h
   ·exact o4 h
   ·exact hne x o3 h.symm
  ·show nthZ (updZ s.idx a (s.cnt+1)) a<s.cnt+1+1;rw[hea];omega
  ·show nthZ (updZ s.low a (s.cnt+1)) a≤nthZ (updZ s.idx a (s.cnt+1)) a;rw[hea,hla];omega
  ·show nthZ (updZ s.idx a (s.cnt+1)) a=nthZ (updZ s.low a (s.cnt+1)) a;rw[hea,hla]
  ·rcases hnew x hx with hx | rfl
   ·exfalso;have h1:nthZ (updZ s.idx a (s.cnt+1)) a≤nthZ (updZ s.idx a (s.cnt+1)) x:=h1;rw[hea,hidx x (hsv x hx)]at h1;have:=c.bd x hx;omega
   ·exact .refl _
  ·rcases hnew x hx with hx | rfl
   ·exfalso;have h1:nthZ (updZ s.idx a (s.cnt+1)) a≤nthZ (updZ s.idx a (s.cnt+1)) x:=h1;rw[hea,hidx x (hsv x hx)]at h1;have:=c.bd x hx;omega
   ·exact absurd rfl hn
  ·rcases hnew x hx with hx | rfl
   ·exfalso;have h1:nthZ (updZ s.idx a (s.cnt+1)) a≤nthZ (updZ s.idx a (s.cnt+1)) x:=h1;rw[hea,hidx x (hsv x hx)]at h1;have:=c.bd x hx;omega
   ·exact absurd rfl hn
  ·show SegR g _ (nthZ (updZ s.idx a (s.cnt+1)) a) a rest;rw[hea];refine SegR.trn hsv hr ⟨fun x hx _=>List.mem_append.2 (.inl hx),fun x hx hl=>?_,fun x hx hv=>?_,hidx,fun x hx _=>?_⟩
   ·rcases hnew x hx with hx | rfl
    ·exact hx
    ·exfalso;have hl:nthZ (updZ s.idx x (s.cnt+1)) x<s.cnt+1:=hl;rw[hea]at hl;omega
   ·rcases hnew x hx with hx | rfl
    ·exact hx
    ·exact absurd h0 hv
   ·show nthZ (updZ s.low a (s.cnt+1)) x=nthZ s.low x;rw[hlw x (by have:=(h.vis x hx).1;omega),if_neg (hne x (hsv x hx))]
 ·rw[if_neg (fun e=>h0 e.2)]
  exact⟨c,hp,hr⟩
theorem TCo.of_low {g:List (LI)}{s:TS}(c:TCo g s)(calls:List (Int×Nat))(low:LI):TCo g { s with calls:=calls,low:=low }:=⟨c.ord,c.bd,c.on,c.all,c.outv,c.dis,c.inc,c.scc,c.cl⟩
theorem next_co {g:List (LI)}(hg:GOk g){s:TS}{a:Int}{k:Nat}{rest:List (Int×Nat)}{b:Int}(h:TVis g s a k rest)(c:TCo g s)(hp:SegP g s (s.cnt+1) a k)(hr:SegR g s (nthZ s.idx a) a rest)(hb:(rowZ g a)[k]? = some b):
  TCo g (tNext s a k rest b)∧HeadI g (tNext s a k rest b):=by
 obtain⟨b1,b2⟩:=hg.ent a b (List.mem_of_getElem? hb)
 have ha:=h.seen (a,k) (List.mem_cons_self ..)
 obtain⟨a1,a2,-⟩:=h.call (a,k) (List.mem_cons_self ..)
 simp only at a1 a2 ha;unfold tNext
 by_cases h1:nthZ s.idx b=0
 ·rw[if_pos h1]
  exact⟨c.of_low _ s.low,.inl ⟨h1,rfl,⟨k,rfl,hb,hp.trn (fun x hx=>(h.vis x hx).2.2) ⟨fun x hx _=>hx,fun x hx _=>hx,fun x hx _=>hx,fun x _=>rfl,fun x _ _=>rfl⟩⟩,SegR.trn (s':={ s with calls:=(b,0)::(a,k+1)::rest }) (fun x hx=>(h.vis x hx).2.2) hr ⟨fun x hx _=>hx,fun x hx _=>hx,fun x hx _=>hx,fun x _=>rfl,fun x _ _=>rfl⟩⟩⟩
 ·rw[if_neg h1]
  have own:∀(lw:Int),lw≤nthZ s.low a→(b∈s.stack→lw≤nthZ s.idx b)→∀i y,i<k+1→(rowZ g a)[i]? = some y→nthZ s.idx y≠0∧(y∈s.stack→lw≤nthZ s.idx y):=fun lw hl hlb i y hi hy=>by
   by_cases e:i=k
   ·subst e;rw[hb]at hy;cases hy
    exact⟨h1,hlb⟩
   ·obtain⟨q1,q2⟩:=hp.own i y (by omega) hy
    exact⟨q1,fun hm=>by have:=q2 hm;omega⟩
  by_cases h2:0<nthZ s.on b
  ·rw[if_pos h2];have hbs:=(c.on b b1 b2).1 h2;have hlw:∀x,0≤x→nthZ (updZ s.low a (min (nthZ s.low a) (nthZ s.idx b))) x=if a=x then min (nthZ s.low a) (nthZ s.idx b)else nthZ s.low x:=fun x hx=>nthZ_upd _ _ _ _ (by omega) hx (by have:=h.ll;omega);have hla:=hlw a (by omega);rw[if_pos rfl]at hla;have hm1:min (nthZ s.low a) (nthZ s.idx b)≤nthZ s.low a:=Int.min_le_left _ _;have hm2:min (nthZ s.low a) (nthZ s.idx b)≤nthZ s.idx b:=Int.min_le_right _ _
   refine⟨c.of_low _ _,.inr ⟨ha,⟨hp.mem,hp.lt,?_,?_,hp.up,fun x hx q1 q2 hn=>?_,fun x hx q1 q2 hn y hy=>?_,fun i y hi hy=>?_⟩,?_⟩⟩
   ·show nthZ (updZ s.low a _) a≤nthZ s.idx a;rw[hla];have:=hp.low;omega
   ·show ∃y∈s.stack,nthZ s.idx y=nthZ (updZ s.low a _) a∧_;rw[hla]
    by_cases e:nthZ s.low a≤nthZ s.idx b
    ·obtain⟨y,hy,e1,r⟩:=hp.at_
     exact⟨y,hy,by rw[e1];omega,r⟩
    ·exact⟨b,hbs,by omega,.edge (List.mem_of_getElem? hb)⟩
   ·obtain⟨y,hy,e1,r,l⟩:=hp.blk x hx q1 q2 hn
    refine⟨y,hy,e1,r,?_⟩
    show nthZ (updZ s.low a _) a≤nthZ s.idx y;rw[hla];omega
   ·obtain⟨q3,q4⟩:=hp.edg x hx q1 q2 hn y hy
    refine⟨q3,fun hm=>?_⟩
    show nthZ (updZ s.low a _) a≤nthZ s.idx y;rw[hla];have:=q4 hm;omega
   ·show nthZ s.idx y≠0∧(y∈s.stack→nthZ (updZ s.low a _) a≤nthZ s.idx y);rw[hla];exact own _ hm1 (fun _=>hm2) i y hi hy
   ·refine SegR.trn (s:=s) (fun x hx=>(h.vis x hx).2.2) hr ⟨fun x hx _=>hx,fun x hx _=>hx,fun x hx _=>hx,fun x _=>rfl,fun x hx hl=>?_⟩;show nthZ (updZ s.low a _) x=nthZ s.low x;rw[hlw x (by have:=(h.vis x hx).1;omega),if_neg (fun e=>by subst e;exact absurd hl (Int.lt_irrefl _))]
  ·rw[if_neg h2];have hbs:b∉s.stack:=fun e=>h2 ((c.on b b1 b2).2 e)
   exact⟨c.of_low _ s.low,.inr ⟨ha,⟨hp.mem,hp.lt,hp.low,hp.at_,hp.up,hp.blk,hp.edg,own _ (Int.le_refl _) fun e=>absurd e hbs⟩,SegR.trn (s:=s) (fun x hx=>(h.vis x hx).2.2) hr ⟨fun x hx _=>hx,fun x hx _=>hx,fun x hx _=>hx,fun x _=>rfl,fun x _ _=>rfl⟩⟩⟩
theorem drop_mem {s:LI}{f:Int→Int}(ho:s.Pairwise fun x y=>f x<f y){a:Int}(ha:a∈s)(x:Int):(x∈s.drop (s.idxOf a)↔x∈s∧f a≤f x)∧(x∈s.take (s.idxOf a)↔x∈s∧f x<f a):=by
 induction s with
 |nil=>cases ha
 |cons y t ih=>
  rw[List.pairwise_cons]at ho
  by_cases e:y=a
  ·subst e;rw[List.idxOf_cons_self,List.drop_zero,List.take_zero]
   refine⟨⟨fun h=>⟨h,?_⟩,fun h=>h.1⟩,⟨fun h=>(by cases h),fun h=>?_⟩⟩
   ·rcases List.mem_cons.1 h with rfl | h
    ·exact Int.le_refl _
    ·have:=ho.1 x h;omega
   ·exfalso;rcases List.mem_cons.1 h.1 with rfl | h1
    ·omega
    ·have:=ho.1 x h1;omega
  ·have ha':a∈t:=by
    rcases List.mem_cons.1 ha with h | h
    ·exact absurd h.symm e
    ·exact h
   have hi:(y::t).idxOf a=t.idxOf a+1:=(by rw[List.idxOf_cons,show (y==a)=false from beq_false_of_ne e];rfl)
   have:=ih ho.2 ha'
   have hya:=ho.1 a ha';rw[hi,List.drop_succ_cons,List.take_succ_cons]
   refine⟨⟨fun h=>?_,fun h=>?_⟩,⟨fun h=>?_,fun h=>?_⟩⟩
   ·have:=this.1.1 h;exact⟨List.mem_cons_of_mem _ this.1,this.2⟩
   ·rcases List.mem_cons.1 h.1 with rfl | h1
    ·have:=h.2;omega
    ·exact this.1.2 ⟨h1,h.2⟩
   ·rcases List.mem_cons.1 h with rfl | h
    ·exact⟨List.mem_cons_self ..,hya⟩
    ·have:=this.2.1 h;exact⟨List.mem_cons_of_mem _ this.1,this.2⟩
   ·rcases List.mem_cons.1 h.1 with rfl | h1
    ·exact List.mem_cons_self ..
    ·exact List.mem_cons_of_mem _ (this.2.2 ⟨h1,h.2⟩)
theorem offAll_nth:∀(c on:LI)(x:Int),0≤x→(∀b∈c,0≤b∧b<(on.length:Int))→nthZ (offAll on c) x=if x∈c then 0 else nthZ on x
 |[],on,x,_,_=>by simp[offAll]
 |b::c,on,x,hx,h=>by
  have hb:=h b (List.mem_cons_self ..);rw[offAll,offAll_nth c _ x hx fun y hy=>by rw[updZ_len];exact h y (List.mem_cons_of_mem _ hy),nthZ_upd _ _ _ _ hb.1 hx hb.2]
  by_cases e:b=x
  ·subst e;simp
  ·have e':¬x=b:=fun k=>e k.symm;simp[e,e']
theorem sortZ_perm (l:LI):(sortZ l).Perm l:=List.mergeSort_perm _ _
theorem sortZ_mem (l:LI)(x:Int):x∈sortZ l↔x∈l:=(sortZ_perm l).mem_iff
theorem sortZ_lt {l:LI}(hn:l.Nodup):(sortZ l).Pairwise (· < ·):=by
 have h1:(sortZ l).Pairwise fun x y=>decide (x≤y)=true:=List.pairwise_mergeSort (fun a b c h1 h2=>by simp at h1 h2 ⊢;omega) (fun a b=>by simp;omega) l;have h2:(sortZ l).Nodup:=(sortZ_perm l).nodup_iff.2 hn
 exact(h1.and h2).imp fun {x y} h=>by
  have:=h.1
  simp at this
  have:=h.2
  omega
theorem comp_co {g:List (LI)}{s:TS}{a:Int}(h:TOk g s)(c:TCo g s)(ha:a∈s.stack)(he:nthZ s.low a=nthZ s.idx a)
  (rto:∀x∈s.stack,nthZ s.idx a≤nthZ s.idx x→Rch g x a) (rfr:∀x∈s.stack,nthZ s.idx a≤nthZ s.idx x→Rch g a x)
  (ed:∀x∈s.stack,nthZ s.idx a≤nthZ s.idx x→∀y∈rowZ g x,(1≤y∧y<(g.length:Int))∧nthZ s.idx y≠0∧(y∈s.stack→nthZ s.idx a≤nthZ s.idx y)):
  TCo g (tComp s a)∧(∀x,x∈(tComp s a).stack↔x∈s.stack∧nthZ s.idx x<nthZ s.idx a):=by
 have hdt:=drop_mem (f:=nthZ s.idx) c.ord ha;unfold tComp;rw[if_pos he];have hnd:(s.stack.drop (s.stack.idxOf a)).Nodup:=h.nd.sublist (List.drop_sublist _ _)
 have hon:∀x,0≤x→nthZ (offAll s.on (s.stack.drop (s.stack.idxOf a))) x=if x∈s.stack.drop (s.stack.idxOf a)then 0 else nthZ s.on x:=fun x hx=>offAll_nth _ _ _ hx fun b hb=>by
  have:=h.vis b (List.mem_of_mem_drop hb)
  have:=h.lo
  omega
 refine⟨⟨c.ord.sublist (List.take_sublist _ _),fun x hx=>c.bd x (List.mem_of_mem_take hx),fun x h1 h2=>?_,fun x h1 h2 hx=>?_,fun d hd x hx=>?_,?_,fun d hd=>?_,fun d hd x hx y hy=>?_,fun i d hd x hx y hy=>?_⟩,fun x=>(hdt x).2⟩
 ·show 0<nthZ (offAll s.on _) x↔x∈s.stack.take _;rw[hon x (by omega),(hdt x).2]
  by_cases hm:x∈s.stack.drop (s.stack.idxOf a)
  ·rw[if_pos hm]
   have:=(hdt x).1.1 hm
   constructor
   ·intro k;omega
   ·intro k;omega
  ·rw[if_neg hm,c.on x h1 h2]
   have:¬(x∈s.stack∧nthZ s.idx a≤nthZ s.idx x):=fun k=>hm ((hdt x).1.2 k)
   constructor
   ·intro k
    by_cases hl:nthZ s.idx x<nthZ s.idx a
    ·exact⟨k,hl⟩
    ·exact absurd ⟨k,by omega⟩ this
   ·intro k;exact k.1
 ·rcases c.all x h1 h2 hx with hm | ⟨d,hd,hm⟩
  ·by_cases hl:nthZ s.idx x<nthZ s.idx a
   ·exact .inl ((hdt x).2.2 ⟨hm,hl⟩)
   ·exact .inr ⟨_,List.mem_append.2 (.inr (List.mem_singleton.2 rfl)),(sortZ_mem _ x).2 ((hdt x).1.2 ⟨hm,by omega⟩)⟩
  ·exact .inr ⟨d,List.mem_append.2 (.inl hd),hm⟩
 ·rcases List.mem_append.1 hd with hd | hd
  ·obtain⟨o1,o2,o3,o4⟩:=c.outv d hd x hx
   exact⟨o1,o2,o3,fun k=>o4 (List.mem_of_mem_take k)⟩
  ·rw[List.mem_singleton]at hd;subst hd;have hx:=(hdt x).1.1 ((sortZ_mem _ x).1 hx)
   obtain⟨v1,v2,v3⟩:=h.vis x hx.1
   refine⟨v1,v2,v3,fun k=>?_⟩
   have:=((hdt x).2.1 k).2
   omega
 ·rw[List.pairwise_append]
  refine⟨c.dis,by simp,fun d hd e he x hx hx2=>?_⟩
  rw[List.mem_singleton]at he;subst he
  have:=(hdt x).1.1 ((sortZ_mem _ x).1 hx2)
  exact(c.outv d hd x hx).2.2.2 this.1
 ·rcases List.mem_append.1 hd with hd | hd
  ·exact c.inc d hd
  ·rw[List.mem_singleton]at hd;subst hd
   refine⟨fun e=>?_,sortZ_lt hnd⟩
   have:a∈sortZ (s.stack.drop (s.stack.idxOf a)):=(sortZ_mem _ a).2 ((hdt a).1.2 ⟨ha,Int.le_refl _⟩)
   rw[e]at this;cases this
 ·rcases List.mem_append.1 hd with hd | hd
  ·exact c.scc d hd x hx y hy
  ·rw[List.mem_singleton]at hd;subst hd;have hx:=(hdt x).1.1 ((sortZ_mem _ x).1 hx);have hy:=(hdt y).1.1 ((sortZ_mem _ y).1 hy)
   exact(rto x hx.1 hx.2).trans (rfr y hy.1 hy.2)
 ·rw[List.getElem?_append]at hd
  by_cases hi:i<s.out.length
  ·rw[if_pos hi]at hd
   obtain⟨j,hj,e,he,hy⟩:=c.cl i d hd x hx y hy
   refine⟨j,hj,e,?_,hy⟩
   rw[List.getElem?_append,if_pos (by omega)];exact he
  ·rw[if_neg hi]at hd
   have hi2:i=s.out.length:=by
    have:=(List.getElem?_eq_some_iff.1 hd).1
    simp at this;omega
   subst hi2
   have:d=sortZ (s.stack.drop (s.stack.idxOf a)):=(by simpa using hd.symm)
   subst this;have hx:=(hdt x).1.1 ((sortZ_mem _ x).1 hx)
   obtain⟨⟨y1,y2⟩,y3,y4⟩:=ed x hx.1 hx.2 y hy
   rcases c.all y y1 y2 y3 with hm | ⟨e,he,hm⟩
   ·refine⟨s.out.length,Nat.le_refl _,_,?_,(sortZ_mem _ y).2 ((hdt y).1.2 ⟨hm,y4 hm⟩)⟩
    rw[List.getElem?_append,if_neg (by omega),Nat.sub_self];rfl
   ·obtain⟨j,hj⟩:=List.getElem?_of_mem he
    have hjl:=(List.getElem?_eq_some_iff.1 hj).1
    refine⟨j,by omega,e,?_,hm⟩
    rw[List.getElem?_append,if_pos hjl];exact hj
theorem seg_to {g:List (LI)}{s:TS}{hi a:Int}{m:Nat}(p:SegP g s hi a m)(he:nthZ s.low a=nthZ s.idx a)(ho:s.stack.Pairwise fun x y=>nthZ s.idx x<nthZ s.idx y):
  ∀(n:Nat) (x:Int),x∈s.stack→nthZ s.idx a≤nthZ s.idx x→nthZ s.idx x<hi→(nthZ s.idx x-nthZ s.idx a).toNat≤n→Rch g x a:=by
 intro n
 induction n with
 |zero=>
  intro x hx h1 h2 h3
  have e:x=a:=by
   have:nthZ s.idx x=nthZ s.idx a:=(by omega)
   have hinj:=ho
   exact Classical.byContradiction fun hne=>by
    obtain⟨y,hy,e1,-,l⟩:=p.blk x hx h1 h2 hne
    omega
  subst e;exact .refl _
 |succ n ih=>
  intro x hx h1 h2 h3
  by_cases e:x=a
  ·subst e;exact .refl _
  ·obtain⟨y,hy,e1,r,l⟩:=p.blk x hx h1 h2 e
   exact r.trans (ih y hy (by omega) (by omega) (by omega))
theorem pop_co {g:List (LI)}(hg:GOk g){s:TS}{a:Int}{k:Nat}{rest:List (Int×Nat)}(h:TVis g s a k rest)(c:TCo g s)(hp:SegP g s (s.cnt+1) a k)(hr:SegR g s (nthZ s.idx a) a rest)(hb:(rowZ g a)[k]? = none):
  TCo g (tComp (tUp s a rest) a)∧HeadI g (tComp (tUp s a rest) a):=by
 have hk:(rowZ g a).length≤k:=List.getElem?_eq_none_iff.1 hb;have ha:=h.seen (a,k) (List.mem_cons_self ..)
 obtain⟨a1,a2,-⟩:=h.call (a,k) (List.mem_cons_self ..)
 simp only at a1 a2 ha;have hsv:∀x∈s.stack,nthZ s.idx x≠0:=fun x hx=>(h.vis x hx).2.2;have hbd:∀x∈s.stack,nthZ s.idx x<s.cnt+1:=fun x hx=>by have:=c.bd x hx;omega
 have hown:∀y∈rowZ g a,nthZ s.idx y≠0∧(y∈s.stack→nthZ s.low a≤nthZ s.idx y):=fun y hy=>by
  obtain⟨i,hi⟩:=List.getElem?_of_mem hy
  exact hp.own i y (by have:=(List.getElem?_eq_some_iff.1 hi).1;omega) hi
 have hrow:∀x∈s.stack,nthZ s.idx a≤nthZ s.idx x→∀y∈rowZ g x,(1≤y∧y<(g.length:Int))∧nthZ s.idx y≠0∧(y∈s.stack→nthZ s.low a≤nthZ s.idx y):=fun x hx hl y hy=>by
  refine⟨hg.ent x y hy,?_⟩
  by_cases e:x=a
  ·subst e;exact hown y hy
  ·exact hp.edg x hx hl (hbd x hx) e y hy
 have hu:=tUp_ok h
 -- the low of a is as it was
 have hcase:∀s2:TS,s2=tUp s a rest→s2.stack=s.stack∧s2.idx=s.idx∧s2.on=s.on∧s2.out=s.out∧s2.cnt=s.cnt∧s2.calls=rest∧nthZ s2.low a=nthZ s.low a:=by
  rintro s2 rfl
  cases rest with
  |nil=>exact⟨rfl,rfl,rfl,rfl,rfl,rfl,rfl⟩
  |cons f r=>
   obtain⟨u,j⟩:=f
   refine⟨rfl,rfl,rfl,rfl,rfl,rfl,?_⟩
   obtain⟨⟨i,-,-,hpu⟩,-⟩:=hr
   obtain⟨u1,u2,-⟩:=h.call (u,j) (by simp)
   simp only at u1 u2;show nthZ (updZ s.low u _) a=_;rw[nthZ_upd _ _ _ _ (by omega) (by omega) (by have:=h.ll;omega),if_neg fun e=>by have:=hpu.lt;rw[e]at this;omega]
 obtain⟨q1,q2,q3,q4,q5,q6,q7⟩:=hcase _ rfl
 have c2:TCo g (tUp s a rest):=by
  cases rest with
  |nil=>exact c.of_low [] s.low
  |cons f r=>exact c.of_low (f::r) _
 by_cases he:nthZ s.low a=nthZ s.idx a
 ·have hcc:=comp_co (a:=a) hu.1 c2 (by rw[q1];exact hp.mem) (by rw[q7,q2];exact he)
   (fun x hx hl=>by rw[q1]at hx;rw[q2]at hl;exact seg_to hp he c.ord _ x hx hl (hbd x hx) (Nat.le_refl _))
   (fun x hx hl=>by rw[q1]at hx;rw[q2]at hl;exact hp.up x hx hl (hbd x hx))
   (fun x hx hl y hy=>by
    rw[q1]at hx ⊢;rw[q2]at hl ⊢
    have:=hrow x hx hl y hy
    exact⟨this.1,this.2.1,fun hm=>by have:=this.2.2 hm;omega⟩)
  refine⟨hcc.1,?_⟩
  have hst:=hcc.2;rw[q1,q2]at hst;have he':nthZ (tUp s a rest).low a=nthZ (tUp s a rest).idx a:=by rw[q7,q2];exact he
  have hi2:(tComp (tUp s a rest) a).idx=s.idx:=by unfold tComp;rw[if_pos he'];exact q2
  have hl2:(tComp (tUp s a rest) a).low=(tUp s a rest).low:=by unfold tComp;rw[if_pos he']
  have hc2:(tComp (tUp s a rest) a).calls=rest:=by unfold tComp;rw[if_pos he'];exact q6
  have hn2:(tComp (tUp s a rest) a).cnt=s.cnt:=by unfold tComp;rw[if_pos he'];exact q5
  unfold HeadI;rw[hc2]
  cases rest with
  |nil=>
   show (tComp (tUp s a []) a).stack=[];refine List.eq_nil_iff_forall_not_mem.2 fun x hx=>?_
   have:=(hst x).1 hx
   have:=hr x this.1
   omega
  |cons f r=>
   obtain⟨u,j⟩:=f
   obtain⟨⟨i,e,hb2,hpu⟩,hr2⟩:=hr
   obtain⟨u1,u2,-⟩:=h.call (u,j) (by simp)
   simp only at u1 u2
   have hlu:nthZ (tComp (tUp s a ((u,j)::r)) a).low u=nthZ s.low u:=by
    rw[hl2];show nthZ (updZ s.low u (min (nthZ s.low u) (nthZ s.low a))) u=_;rw[nthZ_upd _ _ _ _ (by omega) (by omega) (by have:=h.ll;omega),if_pos rfl]
    have:=hpu.low;have:=hpu.lt;omega
   have hT:Trn s (tComp (tUp s a ((u,j)::r)) a) (nthZ s.idx a):=by
    refine⟨fun x hx hl=>(hst x).2 ⟨hx,hl⟩,fun x hx _=>((hst x).1 hx).1,fun x hx _=>((hst x).1 hx).1,fun x _=>by rw[hi2],fun x hx hl=>?_⟩
    by_cases ex:x=u
    ·subst ex;exact hlu
    ·rw[hl2];show nthZ (updZ s.low u _) x=_;rw[nthZ_upd _ _ _ _ (by omega) (by have:=(h.vis x hx).1;omega) (by have:=h.ll;omega),if_neg fun k=>ex k.symm]
   have p2:=hpu.trn hsv hT;refine .inr ⟨by rw[hi2];exact h.seen (u,j) (by simp),⟨p2.mem,?_,p2.low,p2.at_,fun x hx l1 _=>?_,fun x hx l1 _ hn=>?_,fun x hx l1 _ hn=>?_,fun i' y hi' hy=>?_⟩,?_⟩
   ·rw[hi2,hn2];have:=hpu.lt;have:=hbd a hp.mem;omega
   ·exact p2.up x hx l1 (by rw[hi2];exact((hst x).1 hx).2)
   ·exact p2.blk x hx l1 (by rw[hi2];exact((hst x).1 hx).2) hn
   ·exact p2.edg x hx l1 (by rw[hi2];exact((hst x).1 hx).2) hn
   ·by_cases ei:i'=i
    ·subst ei;rw[hb2]at hy;cases hy;rw[hi2]
     exact⟨ha,fun hm=>by have:=((hst a).1 hm).2;omega⟩
    ·exact p2.own i' y (by omega) hy
   ·rw[hi2];exact SegR.trn hsv hr2 (hT.less (by have:=hpu.lt;omega))
 ·have hnc:tComp (tUp s a rest) a=tUp s a rest:=by unfold tComp;rw[if_neg (by rw[q7,q2];exact he)]
  rw[hnc]
  refine⟨c2,?_⟩
  have hlt:nthZ s.low a<nthZ s.idx a:=by have:=hp.low;omega
  obtain⟨y0,hy0,ey0,ry0⟩:=hp.at_
  unfold HeadI;rw[q6]
  cases rest with
  |nil=>
   exfalso
   have:=hr y0 hy0
   omega
  |cons f r=>
   obtain⟨u,j⟩:=f
   obtain⟨⟨i,e,hb2,hpu⟩,hr2⟩:=hr
   obtain⟨u1,u2,-⟩:=h.call (u,j) (by simp)
   simp only at u1 u2;have hlo:∀x,0≤x→nthZ (tUp s a ((u,j)::r)).low x=if u=x then min (nthZ s.low u) (nthZ s.low a)else nthZ s.low x:=fun x hx=>nthZ_upd _ _ _ _ (by omega) hx (by have:=h.ll;omega);have hlu:=hlo u (by omega);rw[if_pos rfl]at hlu;have m1:min (nthZ s.low u) (nthZ s.low a)≤nthZ s.low u:=Int.min_le_left _ _;have m2:min (nthZ s.low u) (nthZ s.low a)≤nthZ s.low a:=Int.min_le_right _ _;have hua:=hpu.lt;have hru:Rch g u a:=.edge (List.mem_of_getElem? hb2);refine .inr ⟨h.seen (u,j) (by simp),⟨hpu.mem,hbd u hpu.mem,?_,?_,fun x hx l1 _=>?_,fun x hx l1 _ hn=>?_,fun x hx l1 _ hn y hy=>?_,fun i' y hi' hy=>?_⟩,?_⟩
   ·show nthZ (tUp s a ((u,j)::r)).low u≤nthZ s.idx u;rw[hlu];have:=hpu.low;omega
   ·show ∃y∈s.stack,nthZ s.idx y=nthZ (tUp s a ((u,j)::r)).low u∧Rch g u y;rw[hlu]
    by_cases el:nthZ s.low u≤nthZ s.low a
    ·obtain⟨y,hy,e1,r1⟩:=hpu.at_
     exact⟨y,hy,by rw[e1];omega,r1⟩
    ·exact⟨y0,hy0,by rw[ey0];omega,hru.trans ry0⟩
   ·by_cases lx:nthZ s.idx x<nthZ s.idx a
    ·exact hpu.up x hx l1 lx
    ·exact hru.trans (hp.up x hx (by omega) (hbd x hx))
   ·show ∃y∈s.stack,nthZ s.idx y<nthZ s.idx x∧Rch g x y∧nthZ (tUp s a ((u,j)::r)).low u≤nthZ s.idx y;rw[hlu]
    by_cases lx:nthZ s.idx x<nthZ s.idx a
    ·obtain⟨y,hy,e1,r1,l⟩:=hpu.blk x hx l1 lx hn
     exact⟨y,hy,e1,r1,by omega⟩
    ·by_cases ex:x=a
     ·subst ex
      exact⟨y0,hy0,by rw[ey0];exact hlt,ry0,by rw[ey0];exact m2⟩
     ·obtain⟨y,hy,e1,r1,l⟩:=hp.blk x hx (by omega) (hbd x hx) ex
      exact⟨y,hy,e1,r1,by omega⟩
   ·show nthZ s.idx y≠0∧(y∈s.stack→nthZ (tUp s a ((u,j)::r)).low u≤nthZ s.idx y);rw[hlu]
    by_cases lx:nthZ s.idx x<nthZ s.idx a
    ·obtain⟨w1,w2⟩:=hpu.edg x hx l1 lx hn y hy
     exact⟨w1,fun hm=>by have:=w2 hm;omega⟩
    ·obtain⟨-,w1,w2⟩:=hrow x hx (by omega) y hy
     exact⟨w1,fun hm=>by have:=w2 hm;omega⟩
   ·show nthZ s.idx y≠0∧(y∈s.stack→nthZ (tUp s a ((u,j)::r)).low u≤nthZ s.idx y);rw[hlu]
    by_cases ei:i'=i
    ·subst ei;rw[hb2]at hy;cases hy
     exact⟨ha,fun _=>by omega⟩
    ·obtain⟨w1,w2⟩:=hpu.own i' y (by omega) hy
     exact⟨w1,fun hm=>by have:=w2 hm;omega⟩
   ·refine SegR.trn (s:=s) hsv hr2 ⟨fun x hx _=>hx,fun x hx _=>hx,fun x hx _=>hx,fun x _=>rfl,fun x hx hl=>?_⟩;rw[hlo x (by have:=(h.vis x hx).1;omega),if_neg fun k=>by subst k;exact absurd hl (Int.lt_irrefl _)]
theorem tStep_co {g:List (LI)}(hg:GOk g){s:TS}(h:TOk g s)(c:TCo g s)(hh:HeadI g s):TCo g (tStep g s)∧HeadI g (tStep g s):=by
 unfold tStep
 match hs:s.calls with
 |[]=>exact⟨c,hh⟩
 | (a,k)::rest=>
  have hv:=tVisit_ok h hs
  obtain⟨c1,p1,r1⟩:=visit_co h c hh hs
  simp only[]
  cases hb:(rowZ g a)[k]? with
  |some b=>exact next_co hg hv c1 p1 r1 hb
  |none=>exact pop_co hg hv c1 p1 r1 hb
theorem tIter_all {g:List (LI)}(hg:GOk g):∀(n:Nat){s:TS},TOk g s→TCo g s→HeadI g s→TOk g (tIter g n s)∧TCo g (tIter g n s)∧HeadI g (tIter g n s)
 |0,s,h,c,hh=>⟨h,c,hh⟩
 |n+1,s,h,c,hh=>by
  have h1:=tStep_co hg h c hh
  have h2:TOk g (tStep g s):=by
   by_cases hc:s.calls=[]
   ·have:tStep g s=s:=(by unfold tStep;rw[hc])
    rw[this];exact h
   ·exact(tStep_ok hg h hc).1
  exact tIter_all hg n h2 h1.1 h1.2
theorem tIter_end {g:List (LI)}(hg:GOk g):∀(n:Nat){s:TS},TOk g s→tMeas g s≤n→(tIter g n s).calls=[]
 |0,s,h,hm=>by
  by_cases hc:s.calls=[]
  ·exact hc
  ·have:=(tStep_ok hg h hc).2;omega
 |n+1,s,h,hm=>by
  by_cases hc:s.calls=[]
  ·rw[tIter_done _ hc];exact hc
  ·have h1:=tStep_ok hg h hc;exact tIter_end hg n h1.1 (by omega)
theorem tVisit_seen {s:TS}(hc:0≤s.cnt)(a:Int)(k:Nat){x:Int}(hx:nthZ s.idx x≠0):nthZ (tVisit s a k).idx x≠0:=by
 unfold tVisit
 by_cases hv:k=0∧nthZ s.idx a=0
 ·rw[if_pos hv];show nthZ (updZ s.idx a (s.cnt+1)) x≠0;unfold nthZ updZ;rw[List.getD_eq_getElem?_getD,List.getElem?_set]
  by_cases e:a.toNat=x.toNat
  ·rw[if_pos e];split
   ·simp;omega
   ·rename_i h
    exfalso;apply hx;unfold nthZ;rw[List.getD_eq_getElem?_getD,List.getElem?_eq_none (by omega)];rfl
  ·rw[if_neg e,← List.getD_eq_getElem?_getD];exact hx
 ·rw[if_neg hv];exact hx
theorem tStep_idx (g:List (LI)){s:TS}{a:Int}{k:Nat}{rest:List (Int×Nat)}(hc:s.calls=(a,k)::rest):(tStep g s).idx=(tVisit s a k).idx:=by
 unfold tStep;rw[hc];simp only[];have h1:∀(s:TS) (a:Int),(tComp s a).idx=s.idx:=fun s a=>by unfold tComp;split <;> rfl
 have h2:∀(s:TS) (a:Int) (r:List (Int×Nat)),(tUp s a r).idx=s.idx:=fun s a r=>by cases r <;> rfl
 have h3:∀(s:TS) (a:Int) (k:Nat) (r:List (Int×Nat)) (b:Int),(tNext s a k r b).idx=s.idx:=fun s a k r b=>by
  unfold tNext;split
  ·rfl
  ·split <;> rfl
 cases(rowZ g a)[k]? with
 |some b=>exact h3 _ _ _ _ _
 |none=>simp only[];rw[h1,h2]
theorem tStep_seen {g:List (LI)}{s:TS}(h:TOk g s){x:Int}(hx:nthZ s.idx x≠0):nthZ (tStep g s).idx x≠0:=by
 match hc:s.calls with
 |[]=>
  have:tStep g s=s:=by unfold tStep;rw[hc]
  rw[this];exact hx
 | (a,k)::rest=>rw[tStep_idx g hc];exact tVisit_seen (by have:=h.cnt;omega) a k hx
theorem tIter_seen {g:List (LI)}(hg:GOk g):∀(n:Nat){s:TS},TOk g s→∀{x:Int},nthZ s.idx x≠0→nthZ (tIter g n s).idx x≠0
 |0,s,h,x,hx=>hx
 |n+1,s,h,x,hx=>by
  by_cases hc:s.calls=[]
  ·rw[tIter_done _ hc];exact hx
  ·exact tIter_seen hg n (tStep_ok hg h hc).1 (tStep_seen h hx)
def tFrom (s:TS)(a:Int):TS:={ s with calls:=[(a,0)] }
def tSearch (g:List (LI))(s:TS)(a:Int):TS:=if nthZ s.idx a=0 then tIter g (tMeas g (tFrom s a)) (tFrom s a)else s
structure TRoot (g:List (LI))(s:TS):Prop where
 ok:TOk g s
 co:TCo g s
 calls:s.calls=[]
 stack:s.stack=[]
theorem from_ok {g:List (LI)}{s:TS}(h:TRoot g s){a:Int}(h1:1≤a)(h2:a<(g.length:Int))(h0:nthZ s.idx a=0):TOk g (tFrom s a)∧TCo g (tFrom s a)∧HeadI g (tFrom s a):=by
 refine⟨⟨h.ok.li,h.ok.ll,h.ok.lo,fun f hf=>?_,fun f hf=>(by cases hf),fun f hf hk=>?_,?_,h.ok.nd,h.ok.vis,h.ok.cnt⟩,h.co.of_low _ s.low,.inl ⟨h0,rfl,fun x hx=>?_⟩⟩
 ·have:f=(a,0):=by simpa[tFrom]using hf
  subst this
  exact⟨h1,h2,Nat.zero_le _⟩
 ·have:f=(a,0):=by simpa[tFrom]using hf.symm
  subst this;exact absurd rfl hk
 ·show ([a].reverse.filter fun a=>decide (nthZ s.idx a≠0)).Sublist s.stack;simp[h0]
 ·have hx:x∈s.stack:=hx;rw[h.stack]at hx;cases hx
theorem search_root {g:List (LI)}(hg:GOk g){s:TS}(h:TRoot g s){a:Int}(h1:1≤a)(h2:a<(g.length:Int)):
  TRoot g (tSearch g s a)∧nthZ (tSearch g s a).idx a≠0∧∀x,nthZ s.idx x≠0→nthZ (tSearch g s a).idx x≠0:=by
 unfold tSearch
 by_cases h0:nthZ s.idx a=0
 ·rw[if_pos h0]
  obtain⟨k1,k2,k3⟩:=from_ok h h1 h2 h0
  have ha:=tIter_all hg (tMeas g (tFrom s a)) k1 k2 k3;have he:=tIter_end hg _ k1 (Nat.le_refl (tMeas g (tFrom s a)))
  have hs:(tIter g (tMeas g (tFrom s a)) (tFrom s a)).stack=[]:=by
   have:=ha.2.2
   unfold HeadI at this;rw[he]at this;exact this
  refine⟨⟨ha.1,ha.2.1,he,hs⟩,?_,fun x hx=>tIter_seen hg _ k1 hx⟩
  have hm:1≤tMeas g (tFrom s a):=by
   have:=(tStep_ok hg k1 (by simp[tFrom])).2;omega
  obtain⟨n,hn⟩:∃n,tMeas g (tFrom s a)=n+1:=⟨_,(Nat.succ_pred_eq_of_pos hm).symm⟩
  rw[hn,tIter];refine tIter_seen hg n (tStep_ok hg k1 (by simp[tFrom])).1 ?_;rw[tStep_idx g (show (tFrom s a).calls=(a,0)::[] from rfl)]
  exact(tVisit_ok k1 rfl).seen (a,0) (List.mem_cons_self ..)
 ·rw[if_neg h0]
  exact⟨h,h0,fun _ hx=>hx⟩
def tInit (n:Nat):TS:=⟨[],[],List.replicate n 0,List.replicate n 0,List.replicate n 0,0,[]⟩
theorem nth_rep (n:Nat)(x:Int):nthZ (List.replicate n 0) x=0:=by
 unfold nthZ;rw[List.getD_eq_getElem?_getD,List.getElem?_replicate]
 split <;> rfl
theorem init_root (g:List (LI)):TRoot g (tInit g.length):=by
 have hv:visN (List.replicate g.length (0:Int))=0:=by unfold visN;simp
 refine⟨⟨by simp[tInit],by simp[tInit],by simp[tInit],fun f hf=>(by cases hf),fun f hf=>(by cases hf),fun f hf=>(by cases hf),by simp[tInit],by simp[tInit],fun a ha=>(by cases ha),?_⟩,
  ⟨by simp[tInit],fun x hx=>(by cases hx),fun x h1 h2=>?_,fun x h1 h2 hx=>?_,fun c hc=>(by cases hc),by simp[tInit],fun c hc=>(by cases hc),fun c hc=>(by cases hc),fun i c hc=>?_⟩,rfl,rfl⟩
 ·show (0:Int)=(visN (List.replicate g.length (0:Int)):Int);rw[hv];rfl
 ·show 0<nthZ (List.replicate g.length 0) x↔x∈([]:LI);rw[nth_rep];simp
 ·exact absurd (nth_rep g.length x) hx
 ·simp[tInit]at hc
def tRun (g:List (LI))(k:Nat):TS:=(List.range k).foldl (fun s (i:Nat)=>tSearch g s ((i:Int)+1)) (tInit g.length)
theorem tRun_succ (g:List (LI))(k:Nat):tRun g (k+1)=tSearch g (tRun g k) ((k:Int)+1):=by
 unfold tRun;rw[List.range_succ,List.foldl_append];rfl
theorem run_root {g:List (LI)}(hg:GOk g):∀k:Nat,k<g.length→TRoot g (tRun g k)∧∀x:Int,1≤x→x≤(k:Int)→nthZ (tRun g k).idx x≠0
 |0,_=>⟨init_root g,fun x h1 h2=>by omega⟩
 |k+1,hk=>by
  have ih:=run_root hg k (by omega);have h:=search_root hg ih.1 (a:=(k:Int)+1) (by omega) (by omega);rw[tRun_succ]
  refine⟨h.1,fun x h1 h2=>?_⟩
  by_cases e:x=(k:Int)+1
  ·subst e;exact h.2.1
  ·exact h.2.2 x (ih.2 x h1 (by omega))
def compT (g:List (LI)):List (LI):=(tRun g (g.length-1)).out
structure CompOk (g:List (LI))(cs:List (LI)):Prop where
 all:∀x:Int,1≤x→x<(g.length:Int)→∃c∈cs,x∈c
 rng:∀c∈cs,∀x∈c,1≤x∧x<(g.length:Int)
 dis:cs.Pairwise fun c d=>∀x∈c,x∉d
 inc:∀c∈cs,c≠[]∧c.Pairwise (· < ·)
 scc:∀c∈cs,∀x∈c,∀y∈c,Rch g x y
 cl:∀(i:Nat) c,cs[i]? = some c→∀x∈c,∀y∈rowZ g x,∃j≤i,∃d,cs[j]? = some d∧y∈d
theorem comp_ok {g:List (LI)}(hg:GOk g)(h1:1≤g.length):CompOk g (compT g):=by
 obtain⟨h,hv⟩:=run_root hg (g.length-1) (by omega)
 unfold compT
 refine⟨fun x x1 x2=>?_,fun c hc x hx=>?_,h.co.dis,h.co.inc,h.co.scc,h.co.cl⟩
 ·rcases h.co.all x x1 x2 (hv x x1 (by omega))with hm | hm
  ·rw[h.stack]at hm;cases hm
  ·exact hm
 ·have:=h.co.outv c hc x hx
  exact⟨this.1,this.2.1⟩
theorem CompOk.path {g cs:List (LI)}(h:CompOk g cs){x y:Int}(r:Rch g x y):∀{i:Nat}{c:LI},cs[i]? = some c→x∈c→∃j≤i,∃d,cs[j]? = some d∧y∈d:=by
 induction r with
 |refl a=>exact fun {i c} hc hx=>⟨i,Nat.le_refl _,c,hc,hx⟩
 |step hb _ ih=>
  intro i c hc hx
  obtain⟨j,hj,d,hd,hy⟩:=h.cl i c hc _ hx _ hb
  obtain⟨k,hk,e,he,hz⟩:=ih hd hy
  exact⟨k,by omega,e,he,hz⟩
theorem CompOk.uniq {g cs:List (LI)}(h:CompOk g cs){i j:Nat}{c d:LI}{x:Int}(hc:cs[i]? = some c)(hd:cs[j]? = some d)(h1:x∈c)(h2:x∈d):i=j:=by
 rcases Nat.lt_trichotomy i j with hl | hl | hl
 ·obtain⟨hi,rfl⟩:=List.getElem?_eq_some_iff.1 hc
  obtain⟨hj,rfl⟩:=List.getElem?_eq_some_iff.1 hd
  exact absurd h2 (List.pairwise_iff_getElem.1 h.dis i j hi hj hl x h1)
 ·exact hl
 ·obtain⟨hi,rfl⟩:=List.getElem?_eq_some_iff.1 hc
  obtain⟨hj,rfl⟩:=List.getElem?_eq_some_iff.1 hd
  exact absurd h1 (List.pairwise_iff_getElem.1 h.dis j i hj hi hl x h2)
theorem CompOk.same {g cs:List (LI)}(h:CompOk g cs){i j:Nat}{c d:LI}{x y:Int}(hc:cs[i]? = some c)(hd:cs[j]? = some d)(h1:x∈c)(h2:y∈d):i=j↔Rch g x y∧Rch g y x:=by
 constructor
 ·rintro rfl;rw[hc]at hd;cases hd;have hm:=List.mem_of_getElem? hc
  exact⟨h.scc c hm x h1 y h2,h.scc c hm y h2 x h1⟩
 ·rintro⟨r1,r2⟩
  obtain⟨k,hk,e,he,hy⟩:=h.path r1 hc h1
  have:=h.uniq hd he h2 hy
  obtain⟨l,hl,e2,he2,hx⟩:=h.path r2 hd h2
  have:=h.uniq hc he2 h1 hx
  omega
def numFill (i:Int)(out:LI)(c:LI):LI:=c.foldl (fun o a=>updZ o a i) out
def numGo:LI→Int→List (LI)→LI
 |out,_,[]=>out
 |out,i,c::r=>numGo (numFill i out c) (i+1) r
def numL (n:Nat)(cs:List (LI)):LI:=numGo (List.replicate (n+1) 0) 0 cs
theorem numFill_len (i:Int):∀(c out:LI),(numFill i out c).length=out.length
 |[],out=>rfl
 |a::c,out=>by
  show (numFill i (updZ out a i) c).length=_;rw[numFill_len i c,updZ_len]
theorem numFill_nth (i:Int):∀(c out:LI)(x:Int),0≤x→(∀a∈c,0≤a∧a<(out.length:Int))→nthZ (numFill i out c) x=if x∈c then i else nthZ out x
 |[],out,x,_,_=>by simp[numFill]
 |a::c,out,x,hx,h=>by
  have ha:=h a (List.mem_cons_self ..);show nthZ (numFill i (updZ out a i) c) x=_;rw[numFill_nth i c _ x hx fun b hb=>by rw[updZ_len];exact h b (List.mem_cons_of_mem _ hb),nthZ_upd _ _ _ _ ha.1 hx ha.2]
  by_cases e:a=x
  ·subst e;simp
  ·have e':¬x=a:=fun k=>e k.symm;simp[e,e']
theorem numGo_len:∀(cs:List (LI))(out:LI)(i:Int),(numGo out i cs).length=out.length
 |[],out,i=>rfl
 |c::r,out,i=>by rw[numGo,numGo_len r,numFill_len]
theorem numGo_nth:∀(cs:List (LI))(out:LI)(i:Int)(x:Int),0≤x→(∀c∈cs,∀a∈c,0≤a∧a<(out.length:Int))→cs.Pairwise (fun c d=>∀x∈c,x∉d) →
  (∀(j:Nat) c,cs[j]? = some c→x∈c→nthZ (numGo out i cs) x=i+j)∧((∀c∈cs,x∉c)→nthZ (numGo out i cs) x=nthZ out x)
 |[],out,i,x,_,_,_=>⟨fun j c h=>by simp at h,fun _=>rfl⟩
 |c::r,out,i,x,hx,h,hd=>by
  rw[List.pairwise_cons]at hd;have ih:=numGo_nth r (numFill i out c) (i+1) x hx (fun d hd a ha=>by rw[numFill_len];exact h d (List.mem_cons_of_mem _ hd) a ha) hd.2;have hf:=numFill_nth i c out x hx fun a ha=>h c (List.mem_cons_self ..) a ha
  refine⟨fun j d hj hm=>?_,fun hm=>?_⟩
  ·cases j with
   |zero=>
    have:c=d:=(by simpa using hj)
    subst this;rw[numGo,ih.2 fun e he=>hd.1 e he x hm,hf,if_pos hm];omega
   |succ j=>rw[numGo,ih.1 j d (by simpa using hj) hm];omega
  ·rw[numGo,ih.2 fun e he=>hm e (List.mem_cons_of_mem _ he),hf,if_neg (hm c (List.mem_cons_self ..))]
theorem numL_at {g cs:List (LI)}(h:CompOk g cs)(h1:1≤g.length){j:Nat}{c:LI}{x:Int}(hj:cs[j]? = some c)(hx:x∈c):nthZ (numL (g.length-1) cs) x=(j:Int):=by
 have hr:=h.rng c (List.mem_of_getElem? hj) x hx
 have:=(numGo_nth cs (List.replicate (g.length-1+1) 0) 0 x (by omega) (fun c hc a ha=>by
  have:=h.rng c hc a ha
  rw[List.length_replicate];omega) h.dis).1 j c hj hx
 unfold numL;rw[this];omega
theorem nodup_le:∀(m:Nat)(l:LI),l.Nodup→(∀k∈l,0≤k∧k<(m:Int))→l.length≤m
 |0,l,_,h=>by
  cases l with
  |nil=>simp
  |cons a l=>have:=h a (List.mem_cons_self ..);omega
 |m+1,l,hn,h=>by
  have ih:=nodup_le m (l.erase (m:Int)) (hn.erase _) (fun k hk=>by
   obtain⟨h1,h2⟩:=(hn.mem_erase_iff).1 hk
   have:=h k h2
   omega)
  have:=List.length_erase (a:=(m:Int)) (l:=l)
  split at this <;> omega
theorem head_mem {c:LI}(h:c≠[]):c.headD 0∈c:=by
 cases c with
 |nil=>exact absurd rfl h
 |cons a t=>simp
section
variable {g cs : List (LI)}
theorem CompOk.get (h:CompOk g cs){x:Int}(x1:1≤x)(x2:x<(g.length:Int)):∃(i:Nat)(c:LI),cs[i]? = some c∧x∈c:=by
 obtain⟨c,hc,hx⟩:=h.all x x1 x2
 obtain⟨i,hi⟩:=List.getElem?_of_mem hc
 exact⟨i,c,hi,hx⟩
end
def psL (b:LI):LI:=b.filter fun x=>decide (0<x)
def rawL (rs:LG)(a:Nat):LI:=rs.flatMap fun r=>r.head.flatMap fun h=>if h=(a:Int)then psL r.body else[]
def ofL (p:GProg):List (LI):=(List.range (p.n.toNat+1)).map fun a=>Lib.compact (sortZ (rawL p.rules a))
theorem cup_spec (zs:LI)(hs:zs.Pairwise (·≤·)):∀m:Nat,m≤zs.length→(∀x,x∈Lib.compactUpTo zs.toArray m↔x∈zs.take m)∧(Lib.compactUpTo zs.toArray m).Pairwise (· < ·)
 |0,_=>⟨fun x=>by simp[Lib.compactUpTo],by simp[Lib.compactUpTo]⟩
 |m+1,hm=>by
  obtain⟨i1,i2⟩:=cup_spec zs hs m (by omega)
  have e1:(zs.toArray)[m]! = zs[m]:=by simp[getElem!_pos,show m<zs.length by omega]
  have hle:∀x∈zs.take m,x≤zs[m]:=fun x hx=>by
   obtain⟨j,hj,rfl⟩:=List.mem_iff_getElem.1 hx
   have hjm:j<m:=(by rw[List.length_take]at hj;omega);rw[List.getElem_take];exact List.pairwise_iff_getElem.1 hs j m (by omega) (by omega) hjm
  rw[Lib.compactUpTo_succ,List.take_succ_eq_append_getElem (by omega),e1]
  by_cases hk:Lib.keeps zs.toArray m=true
  ·rw[if_pos hk]
   refine⟨fun x=>by rw[List.mem_append,List.mem_append,i1],?_⟩
   rw[List.pairwise_append]
   refine⟨i2,by simp,fun x hx y hy=>?_⟩
   have hy:y=zs[m]:=(by simpa using hy);subst hy;have hx:=(i1 x).1 hx;have h1:=hle x hx
   have hne:x≠zs[m]:=fun e=>by
    unfold Lib.keeps at hk;simp only[decide_eq_true_eq]at hk;rcases hk with hk | hk
    ·subst hk;simp at hx
    ·apply hk;rw[e1]
     obtain⟨j,hj,rfl⟩:=List.mem_iff_getElem.1 hx
     have hjm:j<m:=(by rw[List.length_take]at hj;omega);have hm1:m-1<zs.length:=(by omega);have e2:(zs.toArray)[m-1]! = zs[m-1]:=(by simp[getElem!_pos,hm1]);rw[e2];rw[List.getElem_take]at e
     have a1:zs[j]≤zs[m-1]:=by
      by_cases q:j=m-1
      ·subst q;exact Int.le_refl _
      ·exact List.pairwise_iff_getElem.1 hs j (m-1) (by omega) hm1 (by omega)
     have a2:zs[m-1]≤zs[m]:=List.pairwise_iff_getElem.1 hs (m-1) m hm1 (by omega) (by omega);omega
   omega
  ·rw[if_neg hk,List.append_nil]
   refine⟨fun x=>?_,i2⟩
   rw[i1,List.mem_append]
   refine⟨.inl,fun h=>h.elim id fun h=>?_⟩
   have hx:x=zs[m]:=(by simpa using h);subst hx;have hk':¬(m=0∨(zs.toArray)[m]!≠(zs.toArray)[m-1]!):=fun q=>hk (by unfold Lib.keeps;exact decide_eq_true q);have hm0:m≠0:=fun q=>hk' (.inl q);have he:(zs.toArray)[m]! = (zs.toArray)[m-1]!:=Classical.byContradiction fun q=>hk' (.inr q);have e2:(zs.toArray)[m-1]! = zs[m-1]:=(by simp[getElem!_pos,show m-1<zs.length by omega]);rw[e1,e2]at he;rw[he];exact List.mem_iff_getElem.2 ⟨m-1,by rw[List.length_take];omega,by rw[List.getElem_take]⟩
theorem sortZ_le (l:LI):(sortZ l).Pairwise (·≤·):=by
 have h1:(sortZ l).Pairwise fun x y=>decide (x≤y)=true:=List.pairwise_mergeSort (fun a b c h1 h2=>by simp at h1 h2 ⊢;omega) (fun a b=>by simp;omega) l;exact h1.imp fun h=>by simpa using h
theorem comp_spec (l:LI):(∀x,x∈Lib.compact (sortZ l)↔x∈l)∧(Lib.compact (sortZ l)).Pairwise (· < ·):=by
 have h:=cup_spec (sortZ l) (sortZ_le l) (sortZ l).length (Nat.le_refl _);rw[List.take_length]at h
 exact⟨fun x=>(h.1 x).trans (sortZ_mem l x),h.2⟩
theorem raw_mem (rs:LG)(a:Nat)(b:Int):b∈rawL rs a↔∃r∈rs,(a:Int)∈r.head∧b∈r.body∧0<b:=by
 unfold rawL;rw[List.mem_flatMap];constructor
 ·rintro⟨r,hr,hb⟩
  obtain⟨h,hh,hb⟩:=List.mem_flatMap.1 hb
  by_cases e:h=(a:Int)
  ·rw[if_pos e]at hb
   obtain⟨h1,h2⟩:=List.mem_filter.1 hb
   exact⟨r,hr,by rw[← e];exact hh,h1,by simpa using h2⟩
  ·rw[if_neg e]at hb;cases hb
 ·rintro⟨r,hr,hh,hb,h0⟩
  exact⟨r,hr,List.mem_flatMap.2 ⟨(a:Int),hh,by rw[if_pos rfl];exact List.mem_filter.2 ⟨hb,by simpa using h0⟩⟩⟩
def EdgeP (p:GProg)(a b:Int):Prop:=∃r∈p.rules,a∈r.head∧b∈r.body∧0<b
theorem of_row {p:GProg}(h0:0≤p.n){a:Int}(a0:0≤a)(a1:a≤p.n):rowZ (ofL p) a=Lib.compact (sortZ (rawL p.rules a.toNat)):=by
 unfold rowZ ofL;rw[List.getD_eq_getElem?_getD,List.getElem?_map,List.getElem?_range (by omega)];rfl
theorem of_far {p:GProg}{a:Int}(a1:p.n<a)(h0:0≤p.n):rowZ (ofL p) a=[]:=by
 unfold rowZ ofL;rw[List.getD_eq_getElem?_getD,List.getElem?_eq_none (by simp;omega)];rfl
theorem of_len (p:GProg):(ofL p).length=p.n.toNat+1:=by unfold ofL;simp
theorem of_edge {p:GProg}(h0:0≤p.n){a b:Int}(a0:0≤a)(a1:a≤p.n):b∈rowZ (ofL p) a↔EdgeP p a b:=by
 rw[of_row h0 a0 a1,(comp_spec _).1,raw_mem,show ((a.toNat:Nat):Int)=a by omega];rfl
theorem of_ok {p:GProg}(h:ProgIs p)(h0:0≤p.n)(h4:p.n≤4000):GOk (ofL p):=by
 have ent:∀a,∀b∈rowZ (ofL p) a,1≤b∧b≤p.n:=fun a b hb=>by
  by_cases a1:a≤p.n
  ·have hb:b∈rowZ (ofL p) ((a.toNat:Nat):Int):=by
    unfold rowZ at hb ⊢;rw[Int.toNat_natCast];exact hb
   obtain⟨r,hr,-,hbb,hb0⟩:=(of_edge h0 (by omega) (by omega)).1 hb
   have:=ordGo_mem _ _ _ (show ordGo p.n none r.body=true from(h.rules r hr).body) b hbb
   unfold litB at this;simp only[Bool.and_eq_true,bne_iff_ne,decide_eq_true_eq]at this;omega
  ·rw[of_far (by omega) h0]at hb;cases hb
 refine⟨by rw[of_len];omega,fun a b hb=>?_,fun a=>?_⟩
 ·have:=ent a b hb
  rw[of_len];omega
 ·have hn:(rowZ (ofL p) a).Nodup:=by
   by_cases a1:a≤p.n
   ·have:rowZ (ofL p) a=rowZ (ofL p) ((a.toNat:Nat):Int):=(by unfold rowZ;rw[Int.toNat_natCast])
    rw[this,of_row h0 (by omega) (by omega)];exact List.nodup_iff_pairwise_ne.2 ((comp_spec _).2.imp fun h=>by omega)
   ·rw[of_far (by omega) h0];simp
  have:=nodup_le 4001 _ hn fun k hk=>by have:=ent a k hk;omega
  exact this

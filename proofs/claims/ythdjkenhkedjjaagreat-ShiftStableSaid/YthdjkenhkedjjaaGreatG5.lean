/- G5 -/
import Derived.Test.YthdjkenhkedjjaaGreatGZ
import Derived.Laws.BitsAllLaws
namespace Go.Proofs.YthdjkenhkedjjaaGreat
theorem litLt_trans {a b c:Int}(h1:litLt a b=true)(h2:litLt b c=true):litLt a c=true:=by
 unfold litLt at *;simp only[Bool.or_eq_true,Bool.and_eq_true,decide_eq_true_eq]at *;omega
theorem ordGo_iff (n:Int):∀(xs:LI)(p:Option Int),ordGo n p xs=true↔(∀x∈xs,litB x n=true)∧xs.Pairwise (fun a b=>litLt a b=true)∧(∀y,p=some y→∀x∈xs,litLt y x=true)
 |[],p=>by simp[ordGo]
 |x::r,p=>by
  rw[ordGo_cons,Bool.and_eq_true,Bool.and_eq_true,ordGo_iff n r (some x),List.pairwise_cons];constructor
  ·rintro⟨⟨h1,h2⟩,h3,h4,h5⟩
   refine⟨fun y hy=>?_,⟨h5 x rfl,h4⟩,fun y hy z hz=>?_⟩
   ·rcases List.mem_cons.1 hy with rfl | hy
    ·exact h1
    ·exact h3 y hy
   ·subst hy;rcases List.mem_cons.1 hz with rfl | hz
    ·exact h2
    ·exact litLt_trans h2 (h5 x rfl z hz)
  ·rintro⟨h1,⟨h2,h3⟩,h4⟩
   refine⟨⟨h1 x (by simp),?_⟩,fun y hy=>h1 y (by simp[hy]),h3,fun y hy=>by cases hy;exact h2⟩
   cases p with
   |none=>rfl
   |some y=>exact h4 y rfl x (by simp)
theorem ordB_filter {n:Int}{xs:LI}(h:ordB n xs=true)(f:Int→Bool):ordB n (xs.filter f)=true:=by
 obtain⟨h1,h2,_⟩:=(ordGo_iff n xs none).1 h
 exact(ordGo_iff n _ none).2 ⟨fun x hx=>h1 x (List.mem_filter.1 hx).1,h2.sublist List.filter_sublist,fun _ e=>by cases e⟩
theorem incB_one {n a:Int}(h1:1≤a)(h2:a≤n):incB n [a]=true:=by
 simp[incB,ordB,ordGo,litB];omega
theorem wtGo_of:∀(xs:LI)(s:Int),(∀x∈xs,1≤x)→s+xs.sum≤1048576→wtGo s xs=true
 |[],_,_,_=>rfl
 |x::r,s,h1,h2=>by
  have hx:=h1 x (by simp);have hr:=sum_nonneg (l:=r) fun z hz=>by have:=h1 z (by simp[hz]);omega
  rw[List.sum_cons]at h2;simp only[wtGo,Bool.and_eq_true,decide_eq_true_eq]
  refine⟨⟨hx,by omega⟩,wtGo_of r (s+x) (fun z hz=>h1 z (by simp[hz])) (by omega)⟩
theorem posW_sum:∀(xs ys:LI),(∀y∈ys,0≤y)→(posW (xs.zip ys)).sum≤ys.sum
 |[],ys,h=>by simp[posW];exact sum_nonneg h
 |x::xs,[],_=>by simp[posW]
 |x::xs,y::ys,h=>by
  have h1:=h y (by simp);have h2:=posW_sum xs ys fun q hq=>h q (by simp[hq])
  by_cases hx:isPos x=true
  ·have e:posW ((x::xs).zip (y::ys))=y::posW (xs.zip ys):=by simp[posW,hx]
   rw[e,List.sum_cons,List.sum_cons];omega
  ·have e:posW ((x::xs).zip (y::ys))=posW (xs.zip ys):=by simp[posW,hx]
   rw[e,List.sum_cons];omega
theorem pos_zip:∀(xs ys:LI),ys.length=xs.length→((xs.zip ys).filter fun p=>isPos p.1).map Prod.fst=xs.filter isPos
 |[],ys,_=>by simp
 |x::xs,[],h=>by simp at h
 |x::xs,y::ys,h=>by
  have ih:=pos_zip xs ys (by simpa using h)
  by_cases hx:isPos x=true
  ·simp[hx,ih]
  ·simp[hx,ih]
theorem posW_length {xs ys:LI}(h:ys.length=xs.length):(posW (xs.zip ys)).length=(xs.filter isPos).length:=by
 rw[← pos_zip xs ys h,List.length_map];unfold posW;rw[List.length_map]
theorem sumT_nonneg (m:LI):∀(xs ys:LI),(∀y∈ys,0≤y)→0≤sumT xs ys m
 |[],ys,_=>by simp[sumT]
 |x::xs,[],_=>by simp[sumT]
 |x::xs,y::ys,h=>by
  have h1:=h y (by simp);have h2:=sumT_nonneg m xs ys fun q hq=>h q (by simp[hq]);rw[sumT_cons];split <;> omega
theorem sumT_split (m:LI):∀(xs ys:LI),ys.length=xs.length→sumT xs ys m=negS m (xs.zip ys)+sumT (xs.filter isPos) (posW (xs.zip ys)) m
 |[],ys,h=>by
  have:ys=[]:=List.eq_nil_of_length_eq_zero (by simpa using h)
  subst this;simp[sumT,negS,posW]
 |x::xs,[],h=>by simp at h
 |x::xs,y::ys,h=>by
  have ih:=sumT_split m xs ys (by simpa using h);rw[sumT_cons,ih,List.zip_cons_cons,negS]
  by_cases hx:isPos x=true
  ·have h0:0<x:=by simpa[isPos]using hx
   have e1:posW ((x,y)::xs.zip ys)=y::posW (xs.zip ys):=(by simp[posW,hx]);rw[List.filter_cons_of_pos hx,e1,sumT_cons,if_neg (by omega:¬(x≤0∧-x∉m))];omega
  ·have h0:¬0<x:=by simpa[isPos]using hx
   have e1:posW ((x,y)::xs.zip ys)=posW (xs.zip ys):=(by simp[posW,hx]);rw[List.filter_cons_of_neg hx,e1];unfold trueB;rw[if_neg h0]
   by_cases hm : -x∈m
   ·rw[if_neg (by simp[hm]),if_neg (fun h=>h.2 hm)];omega
   ·rw[if_pos (by simp[hm]),if_pos ⟨by omega,hm⟩];omega
theorem all_filter {p q:Int→Bool}:∀(l:LI),(∀x∈l,q x=false→p x=true)→l.all p=(l.filter q).all p
 |[],_=>rfl
 |x::r,h=>by
  have ih:=all_filter r fun z hz=>h z (by simp[hz])
  by_cases hx:q x=true
  ·rw[List.filter_cons_of_pos hx,List.all_cons,List.all_cons,ih]
  ·rw[List.filter_cons_of_neg hx,List.all_cons,ih,h x (by simp) (by simpa using hx),Bool.true_and]
theorem body_red {r:GRule}{n:Int}(hi:RuleIs r n){m:LI}(hd:dropB r m=false):bodyB (posRule r m) m=bodyB r m:=by
 by_cases hs:r.sum=true
 ·have hw:=wtGo_spec r.w 0 (by omega) (by omega) (hi.wt hs);have hsp:=sumT_split m r.body r.w (hi.wlen hs)
  have hnn:=sumT_nonneg m (r.body.filter isPos) (posW (zp r)) fun y hy=>by
   obtain⟨x,hx⟩:=posW_mem hy
   have:=hw.1 y (List.of_mem_zip hx).2;omega
  change sumT r.body r.w m=negS m (zp r)+sumT (r.body.filter isPos) (posW (zp r)) m at hsp;unfold posRule;rw[if_pos hs];have hb:bodyB r m=decide (r.bound≤sumT r.body r.w m):=by unfold bodyB;rw[if_pos hs]
  rw[hb,hsp]
  by_cases hz:r.bound-negS m (zp r)≤0
  ·rw[if_pos hz,decide_eq_true (by omega)];rfl
  ·rw[if_neg hz];show decide (r.bound-negS m (zp r)≤sumT (r.body.filter isPos) (posW (zp r)) m)=_;rw[Bool.eq_iff_iff,decide_eq_true_eq,decide_eq_true_eq];omega
 ·have hf:r.sum=false:=by simpa using hs
  unfold dropB at hd;rw[hf]at hd;simp only[Bool.not_false,Bool.true_and,List.any_eq_false]at hd;unfold posRule bodyB;simp only[hf,Bool.false_eq_true,if_false]
  refine(all_filter r.body fun x hx hq=>?_).symm
  have:=hd x hx
  unfold badL at this;rw[hq]at this;simp at this;have h0:¬0<x:=by simpa[isPos]using hq
  unfold trueB;rw[if_neg h0];simp[this]
theorem drop_body {r:GRule}{m:LI}(hd:dropB r m=true):bodyB r m=false:=by
 unfold dropB at hd;simp only[Bool.and_eq_true,Bool.not_eq_true',List.any_eq_true]at hd
 obtain⟨hf,x,hx,hb⟩:=hd
 unfold bodyB;rw[hf];simp only[Bool.false_eq_true,if_false];rw[List.all_eq_false]
 refine⟨x,hx,?_⟩
 unfold badL at hb;simp only[Bool.and_eq_true,Bool.not_eq_true',decide_eq_true_eq]at hb;have h0:¬0<x:=by have:=hb.1;simpa[isPos]using this
 unfold trueB;rw[if_neg h0];simp[hb.2]
theorem posRule_body {r:GRule}{m:LI}:∀x∈(posRule r m).body,0<x:=by
 intro x hx;unfold posRule at hx;have key:x∈r.body.filter isPos→0<x:=fun h=>by simpa[isPos]using(List.mem_filter.1 h).2
 split at hx
 ·split at hx
  ·simp[zeroRule]at hx
  ·exact key hx
 ·exact key hx
theorem posRule_choice (r:GRule)(m:LI):(posRule r m).choice=false:=by
 unfold posRule;split
 ·split <;> rfl
 ·rfl
theorem posRule_is {r:GRule}{n:Int}(hi:RuleIs r n)(m:LI){hs:LI}(hh:incB n hs=true):ruleE { posRule r m with head:=hs } n=0:=by
 have h0:=hi.n0;have h1:=hi.n1;have hb:=ordB_filter hi.body isPos;unfold ruleE;rw[if_neg (by omega),if_neg (by rw[hh];simp[posRule_choice])]
 by_cases hsum:r.sum=true
 ·have hw:=wtGo_spec r.w 0 (by omega) (by omega) (hi.wt hsum);have hwl:=hi.wlen hsum;have hbb:=negS_bd m r.body r.w (zp r).length fun y hy=>by have:=hw.1 y hy;omega
  rw[show (r.body.zip r.w).take (zp r).length=zp r from List.take_length]at hbb;have hb0:=hi.b0 hsum;have hb1:=hi.b1 hsum;unfold posRule;rw[if_pos hsum]
  by_cases hz:r.bound-negS m (zp r)≤0
  ·rw[if_pos hz];simp[zeroRule,ordB,ordGo]
  ·rw[if_neg hz]
   have hwt:wtB (posW (zp r)) (r.body.filter isPos).length=true:=by
    unfold wtB;rw[show (posW (zp r)).length=(r.body.filter isPos).length from posW_length hwl];have h2:=posW_sum r.body r.w fun y hy=>by have:=hw.1 y hy;omega
    have h3:wtGo 0 (posW (zp r))=true:=wtGo_of _ 0 (fun y hy=>by
     obtain⟨x,hx⟩:=posW_mem hy
     exact hw.1 y (List.of_mem_zip hx).2) (by change (posW (zp r)).sum≤_ at h2;omega)
    simp[h3]
   simp only;rw[if_neg (by rw[hb];simp),if_neg];rw[hwt];simp;omega
 ·have hf:r.sum=false:=by simpa using hsum
  have hp:=hi.plain hf;unfold posRule;simp only[hf,Bool.false_eq_true,if_false];rw[if_neg (by rw[hb];simp),if_neg (by simp[hp.2])]
theorem redOne_is {r:GRule}{n:Int}(hi:RuleIs r n)(m:LI):∀x∈redOne m r,ruleE x n=0∧x.choice=false∧∀b∈x.body,0<b:=by
 intro x hx;unfold redOne at hx
 split at hx
 ·simp at hx
 ·split at hx
  ·obtain⟨a,ha,rfl⟩:=List.mem_map.1 hx
   have:=inc_mem hi.head a (List.mem_filter.1 ha).1
   exact⟨posRule_is hi m (incB_one this.1 this.2),posRule_choice _ _,posRule_body⟩
  ·simp at hx;subst hx
   exact⟨posRule_is hi m hi.head,posRule_choice _ _,posRule_body⟩
theorem satB_head {r:GRule}{m hs:LI}:satB { posRule r m with head:=hs } m=(!bodyB (posRule r m) m || hs.any fun a=>decide (a∈m)):=by
 unfold satB;rw[show ({ posRule r m with head:=hs }:GRule).choice=false from posRule_choice r m,Bool.false_or]
 rfl
theorem sat_red {r:GRule}{n:Int}(hi:RuleIs r n)(m:LI):(redOne m r).all (fun x=>satB x m)=satB r m:=by
 unfold redOne;split
 ·rename_i hd
  unfold satB;rw[drop_body hd];simp
 ·rename_i hd
  have hd:dropB r m=false:=by simpa using hd
  split
  ·rename_i hc
   have:satB r m=true:=(by unfold satB;rw[hc];rfl)
   rw[this,List.all_eq_true];intro x hx
   obtain⟨a,ha,rfl⟩:=List.mem_map.1 hx
   rw[satB_head]
   have:=(List.mem_filter.1 ha).2
   simp only[decide_eq_true_eq]at this;simp[this]
  ·rename_i hc
   rw[List.all_cons,List.all_nil,Bool.and_true,satB_head,body_red hi hd];unfold satB;rw[show r.choice=false from by simpa using hc,Bool.false_or]
theorem model_red {n:Int}(m:LI):∀(rs:LG),(∀r∈rs,RuleIs r n)→(reductL rs m).all (fun x=>satB x m)=rs.all (fun x=>satB x m)
 |[],_=>rfl
 |r::t,h=>by
  have ih:=model_red m t fun x hx=>h x (by simp[hx]);have e:reductL (r::t) m=redOne m r++reductL t m:=by simp[reductL]
  rw[e,List.all_append,List.all_cons,ih,sat_red (h r (by simp)) m]
theorem reductL_is {n:Int}(m:LI):∀(rs:LG),(∀r∈rs,RuleIs r n)→∀x∈reductL rs m,ruleE x n=0∧x.choice=false∧∀b∈x.body,0<b:=fun rs h x hx=>by
 unfold reductL at hx
 obtain⟨r,hr,hx⟩:=List.mem_flatMap.1 hx
 exact redOne_is (h r hr) m x hx
def withP (n:Int)(rs:LG):GProg:=⟨n,List.replicate n.toNat ByteArray.empty,[],rs,[]⟩
open Go.RowKit
open Go.RowKit
theorem incB_sub {n:Int}{xs ys:LI}(h:incB n xs=true)(hs:ys.Sublist xs):incB n ys=true:=by
 unfold incB at *;rw[Bool.and_eq_true]at *
 obtain⟨h1,h2,_⟩:=(ordGo_iff n xs none).1 h.1
 exact⟨(ordGo_iff n _ none).2 ⟨fun x hx=>h1 x (hs.subset hx),h2.sublist hs,fun _ e=>by cases e⟩,List.all_eq_true.2 fun x hx=>List.all_eq_true.1 h.2 x (hs.subset hx)⟩
theorem defB_of {n:Int}{rs:LG}(h0:0≤n)(h1:n≤4000)(hl:rs.length≤40000)(h:∀r∈rs,defR n r=true):defB n rs=true:=by
 unfold defB;rw[decide_eq_true h0,decide_eq_true h1,decide_eq_true hl,List.all_eq_true.2 h];rfl
theorem sumP_mono {m m':LI}(hs:∀x∈m,x∈m'):∀l:List (Int×Int),(∀p∈l,1≤p.2)→sumP m l≤sumP m' l
 |[],_=>by simp[sumP]
 |p::r,h=>by
  have ih:=sumP_mono hs r fun q hq=>h q (by simp[hq]);have hp:=h p (by simp);simp only[sumP]
  by_cases h1:p.1∈m
  ·rw[if_pos h1,if_pos (hs _ h1)];omega
  ·rw[if_neg h1];split <;> omega
theorem body_mono {r:GRule}{n:Int}(h:DefIs r n){m m':LI}(hs:∀x∈m,x∈m')(hb:bodyB r m=true):bodyB r m'=true:=by
 have h1:=(body_need r m h.pos).1 hb;have h2:=sumP_mono hs (bp r) fun p hp=>(bp_bd h p hp).1
 refine(body_need r m' h.pos).2 ?_
 unfold needF at *;omega
open Go.RowKit
theorem bad_of {r:GRule}(h1:r.body.length≤8000)(h2:∀x∈r.body,x≠0∧-9223372036854775808<x)(h3:r.sum=true→r.w.length=r.body.length):badB r=false:=by
 unfold badB;have e1:decide ((0:Int)∈r.body)=false:=decide_eq_false fun h=>(h2 0 h).1 rfl;have e2:decide ((-9223372036854775808:Int)∈r.body)=false:=decide_eq_false fun h=>by have:=(h2 _ h).2;omega
 rw[e1,e2,decide_eq_false (show ¬8000<r.body.length by omega)]
 cases hs:r.sum with
 |false=>rfl
 |true=>simp[h3 hs]
theorem wOut_ok {l:LI}(h:∀y∈l,0≤y∧y≤1048576):l.any wOut=false:=by
 rw[List.any_eq_false];intro y hy
 have:=h y hy
 simp[wOut];omega
theorem mem_le_sum:∀{l:LI},(∀x∈l,1≤x)→∀{y:Int},y∈l→y≤l.sum
 |[],_,y,hy=>by simp at hy
 |z::r,h,y,hy=>by
  have h0:0≤r.sum:=sum_nonneg fun x hx=>by have:=h x (by simp[hx]);omega
  have hz:=h z (by simp);rcases List.mem_cons.1 hy with rfl | hy
  ·simp;omega
  ·have:=mem_le_sum (fun x hx=>h x (by simp[hx])) hy
   simp;omega
def pickL:LI→Nat→LI
 |[],_=>[]
 |a::t,b=>if b % 2=1 then a::pickL t (b / 2)else pickL t (b / 2)
def subsL (m:LI):List (LI):=(List.range (2 ^ m.length)).map (pickL m)
def satL (rs:LG)(m:LI):Bool:=rs.all (fun r=>satB r m)
def minL (rs:LG)(m:LI):Bool:=match (subsL m).find? (satL rs)with
 |some s=>decide (s.length=m.length)
 |none=>false
def disB (p:GProg):Bool:=p.rules.any (fun r=>!r.choice && decide (1<r.head.length))
def isL (p:GProg)(m:LI):Bool:=modelB p m && (if disB p then minL (reductL p.rules m) m else decide (leastL (reductL p.rules m) p.n.toNat=m))
def lexS:LI→List (LI)
 |[]=>[[]]
 |a::t=>[]::((lexS t).map (a::·)++(lexS t).tail)
def atomsL (n:Nat):LI:=(List.range n).map fun(i:Nat)=>(i:Int)+1
def allL (p:GProg):List (LI):=(lexS (atomsL p.n.toNat)).filter (isL p)
theorem pickL_sub:∀(m:LI)(b:Nat),(pickL m b).Sublist m
 |[],_=>List.Sublist.refl _
 |a::t,b=>by
  have ih:=pickL_sub t (b / 2);unfold pickL;split
  ·exact ih.cons_cons a
  ·exact ih.cons a
theorem pickL_all:∀(m:LI),pickL m (2 ^ m.length-1)=m
 |[]=>rfl
 |a::t=>by
  have ih:=pickL_all t;have h0:0<2 ^ t.length:=Nat.pos_of_ne_zero (by simp);have e:2 ^ (a::t).length-1=2*(2 ^ t.length-1)+1:=by rw[List.length_cons,Nat.pow_succ];omega
  unfold pickL;rw[e,if_pos (by omega),show (2*(2 ^ t.length-1)+1) / 2=2 ^ t.length-1 by omega,ih]
theorem pickL_len:∀(m:LI)(b:Nat),b<2 ^ m.length→(pickL m b).length=m.length→b=2 ^ m.length-1
 |[],b,h,_=>by simp at h;simp[h]
 |a::t,b,h,hl=>by
  have h0:0<2 ^ t.length:=Nat.pos_of_ne_zero (by simp);rw[List.length_cons,Nat.pow_succ]at h;have hle:=(pickL_sub t (b / 2)).length_le;unfold pickL at hl;rw[List.length_cons,Nat.pow_succ]
  split at hl
  ·have:=pickL_len t (b / 2) (by omega) (by simpa using hl)
   omega
  ·rw[List.length_cons]at hl;omega
theorem sub_pick:∀{m s:LI},s.Sublist m→∃b,b<2 ^ m.length∧pickL m b=s
 |[],s,h=>by
  have:s=[]:=List.sublist_nil.1 h
  exact⟨0,by simp,by rw[this];rfl⟩
 |a::t,s,h=>by
  rcases List.sublist_cons_iff.1 h with h1 | ⟨s',rfl,h1⟩
  ·obtain⟨b,hb,e⟩:=sub_pick h1
   exact⟨2*b,by rw[List.length_cons,Nat.pow_succ];omega,by unfold pickL;rw[if_neg (by omega),show 2*b / 2=b by omega,e]⟩
  ·obtain⟨b,hb,e⟩:=sub_pick h1
   exact⟨2*b+1,by rw[List.length_cons,Nat.pow_succ];omega,by unfold pickL;rw[if_pos (by omega),show (2*b+1) / 2=b by omega,e]⟩
theorem minL_iff (rs:LG)(m:LI):minL rs m=true↔satL rs m=true∧∀s:LI,s.Sublist m→satL rs s=true→s=m:=by
 have h0:0<2 ^ m.length:=Nat.pos_of_ne_zero (by simp);have hmem:m∈subsL m:=List.mem_map.2 ⟨2 ^ m.length-1,List.mem_range.2 (by omega),pickL_all m⟩;unfold minL;constructor
 ·intro h
  cases hf:(subsL m).find? (satL rs)with
  |none=>rw[hf]at h;cases h
  |some s=>
   rw[hf]at h;have hl:s.length=m.length:=(by simpa using h)
   obtain⟨hs,pr,bs,e,hbef⟩:=List.find?_eq_some_iff_append.1 hf
   have hsm:s∈subsL m:=(by rw[e];simp)
   obtain⟨b,hb,rfl⟩:=List.mem_map.1 hsm
   have hb2:=pickL_len m b (List.mem_range.1 hb) hl;have hsm2:pickL m b=m:=(by rw[hb2];exact pickL_all m)
   refine⟨by rw[← hsm2];exact hs,fun s' hs' hsat=>?_⟩
   obtain⟨b',hb',rfl⟩:=sub_pick hs'
   by_cases hlast:b'=2 ^ m.length-1
   ·rw[hlast];exact pickL_all m
   ·exfalso;have hin:pickL m b'∈subsL m:=List.mem_map.2 ⟨b',List.mem_range.2 hb',rfl⟩;rw[e]at hin;rcases List.mem_append.1 hin with h1 | h1
    ·have:=hbef _ h1
     rw[hsat]at this;cases this
    ·have hlen:(subsL m).length=2 ^ m.length:=(by simp[subsL])
     have hlast2:(subsL m)[2 ^ m.length-1]? = some m:=by
      unfold subsL;rw[List.getElem?_map,List.getElem?_range (by omega)];simp[pickL_all]
     rcases List.mem_cons.1 h1 with h2 | h2
     ·have h3:=pickL_len m b' hb' (by rw[h2];exact hl);exact hlast h3
     ·-- behind s nothing comes: s is the last
      have hs3:∀i,(subsL m)[i]? = some (pickL m b)→i=2 ^ m.length-1:=fun i hi=>by
       unfold subsL at hi;rw[List.getElem?_map,Option.map_eq_some_iff]at hi
       obtain⟨x,hx,hx2⟩:=hi
       have hxl:=List.getElem?_eq_some_iff.1 hx
       obtain⟨hlt,hxe⟩:=hxl
       rw[List.length_range]at hlt;rw[List.getElem_range]at hxe;subst hxe;exact pickL_len m i hlt (by rw[hx2];exact hl)
      have h4:=hs3 pr.length (by rw[e];simp);have h5:pr.length+1+bs.length=2 ^ m.length:=(by rw[← hlen,e];simp;omega)
      have:bs=[]:=List.eq_nil_of_length_eq_zero (by omega)
      rw[this]at h2;cases h2
 ·rintro⟨h1,h2⟩
  cases hf:(subsL m).find? (satL rs)with
  |none=>
   have:=List.find?_eq_none.1 hf m hmem
   exact absurd h1 this
  |some s=>
   have hs:=List.find?_some hf
   obtain⟨b,hb,rfl⟩:=List.mem_map.1 (List.mem_of_find?_eq_some hf)
   have:=h2 _ (pickL_sub m b) hs
   simp[this]
theorem satL_append (rs ts:LG)(m:LI):satL (rs++ts) m=(satL rs m && satL ts m):=by unfold satL;rw[List.all_append]
open Go.RowKit
theorem inc_range (n:Nat)(f:Nat→Bool):incB n (((List.range n).filter f).map fun(i:Nat)=>(i:Int)+1)=true:=by
 have hm:∀x∈((List.range n).filter f).map (fun(i:Nat)=>(i:Int)+1),1≤x∧x≤(n:Int):=fun x hx=>by
  obtain⟨i,hi,rfl⟩:=List.mem_map.1 hx
  have:=List.mem_range.1 (List.mem_filter.1 hi).1
  omega
 unfold incB ordB;rw[Bool.and_eq_true]
 refine⟨(ordGo_iff n _ none).2 ⟨fun x hx=>?_,?_,fun _ e=>by cases e⟩,List.all_eq_true.2 fun x hx=>?_⟩
 ·have:=hm x hx;simp[litB];omega
 ·refine List.Pairwise.map _ (R:=fun a b:Nat=>a<b) (fun a b hab=>?_) (List.pairwise_lt_range.filter f);unfold litLt absI;rw[if_neg (by omega),if_neg (by omega)]
  simp;omega
 ·have:=hm x hx;simp;omega
theorem least_inc (rs:LG)(n:Nat):incB n (leastL rs n)=true:=inc_range n _
theorem least_mem (rs:LG)(n:Nat)(x:Int):x∈leastL rs n↔x∈(stageF rs n n).2:=by
 rw[stage_in];unfold leastL;constructor
 ·intro h
  obtain⟨i,hi,rfl⟩:=List.mem_map.1 h
  obtain⟨h1,h2⟩:=List.mem_filter.1 hi
  rw[decide_eq_true_eq]at h2
  exact⟨i,List.mem_range.1 h1,rfl,by omega⟩
 ·rintro⟨j,hj,rfl,hne⟩
  have:=stage_bd rs n n j
  exact List.mem_map.2 ⟨j,List.mem_filter.2 ⟨List.mem_range.2 hj,by rw[decide_eq_true_eq];omega⟩,rfl⟩
theorem stage_last (rs:LG){n j:Nat}(hj:j<n)(h:derivB rs (stageF rs n n).2 ((j:Int)+1)=true):(stageF rs n n).1 j≠0:=fun hz=>by
 have h1:=(stage_split rs n n j).1.2 ⟨hz,h⟩;have h2:=cnt_new rs n n ⟨j,hj,h1⟩;have h3:=cnt_le rs n (n+1);omega
theorem body_congr {r:GRule}{n:Int}(h:DefIs r n){m m':LI}(hs:∀x,x∈m↔x∈m'):bodyB r m=bodyB r m':=by
 rw[Bool.eq_iff_iff]
 exact⟨body_mono h fun x hx=>(hs x).1 hx,body_mono h fun x hx=>(hs x).2 hx⟩
theorem inc_ext:∀{xs ys:LI},xs.Pairwise (· < ·)→ys.Pairwise (· < ·)→(∀x,x∈xs↔x∈ys)→xs=ys
 |[],[],_,_,_=>rfl
 |[],y::r,_,_,h=>by have:=(h y).2 (by simp);cases this
 |x::r,[],_,_,h=>by have:=(h x).1 (by simp);cases this
 |x::r,y::t,hx,hy,h=>by
  rw[List.pairwise_cons]at hx hy;have h1:=(h x).1 (by simp);have h2:=(h y).2 (by simp)
  have e:x=y:=by
   rcases List.mem_cons.1 h1 with e | h3
   ·exact e
   ·rcases List.mem_cons.1 h2 with e | h4
    ·exact e.symm
    ·have:=hx.1 y h4;have:=hy.1 x h3;omega
  subst e
  congr 1
  refine inc_ext hx.2 hy.2 fun z=>?_;constructor
  ·intro hz;rcases List.mem_cons.1 ((h z).1 (by simp[hz]))with rfl | h5
   ·have:=hx.1 _ hz;omega
   ·exact h5
  ·intro hz;rcases List.mem_cons.1 ((h z).2 (by simp[hz]))with rfl | h5
   ·have:=hy.1 _ hz;omega
   ·exact h5
theorem inc_pair {n:Int}{xs:LI}(h:incB n xs=true):xs.Pairwise (· < ·):=by
 have hm:=inc_mem h;have h0:ordGo n none xs=true:=by unfold incB ordB at h;simp only[Bool.and_eq_true]at h;exact h.1
 exact(ord_pair n xs none h0 (fun x hx=>(by have:=(hm x hx).1;omega)) (fun _ e=>by cases e)).1
theorem sub_eq {s m:LI}(hs:s.Sublist m)(hm:m.Pairwise (· < ·))(h:∀x∈m,x∈s):s=m:=
 inc_ext (hm.sublist hs) hm fun x=>⟨fun hx=>hs.subset hx,h x⟩
theorem sub_of:∀{s m:LI},s.Pairwise (· < ·)→m.Pairwise (· < ·)→(∀x∈s,x∈m)→s.Sublist m
 |[],m,_,_,_=>List.nil_sublist m
 |x::r,[],_,_,h=>by have:=h x (by simp);cases this
 |x::r,y::t,hs,hm,h=>by
  rw[List.pairwise_cons]at hs hm;rcases List.mem_cons.1 (h x (by simp))with rfl | h1
  ·refine(sub_of hs.2 hm.2 fun z hz=>?_).cons_cons x
   rcases List.mem_cons.1 (h z (by simp[hz]))with rfl | h2
   ·have:=hs.1 _ hz;omega
   ·exact h2
  ·refine(sub_of (List.pairwise_cons.2 hs) hm.2 fun z hz=>?_).cons y
   rcases List.mem_cons.1 (h z hz)with rfl | h2
   ·rcases List.mem_cons.1 hz with rfl | h3
    ·have:=hm.1 _ h1;omega
    ·have:=hs.1 _ h3;have:=hm.1 _ h1;omega
   ·exact h2
theorem stage_in_model {rs:LG}{n:Nat}(hd:∀r∈rs,DefIs r n){m:LI}(hs:satL rs m=true):∀k,∀x∈(stageF rs n k).2,x∈m
 |0,x,hx=>by simp[stageF]at hx
 |k+1,x,hx=>by
  have ih:=stage_in_model hd hs k
  obtain⟨j,hj,rfl,hne⟩:=(stage_in rs n (k+1) x).1 hx
  rcases(stage_split rs n k j).2.1 hne with h | h
  ·exact ih _ ((stage_in rs n k _).2 ⟨j,hj,rfl,h⟩)
  ·have h2:=((stage_split rs n k j).1.1 h).2;unfold derivB derB at h2;rw[List.any_eq_true]at h2
   obtain⟨r,hm,hb⟩:=h2
   rw[Bool.and_eq_true,decide_eq_true_eq]at hb;have h3:=List.all_eq_true.1 hs r hm;have h4:bodyB r m=true:=body_mono (hd r hm) ih hb.2;unfold satB at h3;rw[(hd r hm).plain,h4]at h3;have h5:r.head.any (fun a=>decide (a∈m))=true:=(by simpa using h3)
   match hh:r.head,(hd r hm).one with
   |[],_=>rw[hh]at hb;simp at hb
   |[a],_=>
    rw[hh]at hb h5
    have:a=(j:Int)+1:=(by simpa using hb.1)
    subst this
    simpa using h5
   |_::_::_,h=>simp at h
theorem least_closed {rs:LG}{n:Nat}{r:GRule}(hr:r∈rs)(hi:DefIs r n)(h0:r.head≠[])(hb:bodyB r (leastL rs n)=true):∃a,r.head=[a]∧a∈leastL rs n:=by
 match hh:r.head,hi.one with
 |[],_=>exact absurd hh h0
 |[a],_=>
  have ha:=inc_mem hi.is.head a (by rw[hh];simp)
  refine⟨a,rfl,(least_mem rs n a).2 ?_⟩
  obtain⟨j,hj,rfl⟩:∃j:Nat,j<n∧a=(j:Int)+1:=⟨(a-1).toNat,by omega,by omega⟩
  rw[body_congr hi (least_mem rs n)]at hb
  have:=stage_last rs hj (by unfold derivB derB;rw[List.any_eq_true];exact⟨r,hr,by rw[hh,hb];simp⟩)
  exact(stage_in rs n n _).2 ⟨j,hj,rfl,this⟩
 |_::_::_,h=>simp at h
theorem least_sub {rs:LG}{n:Nat}(hd:∀r∈rs,DefIs r n){m:LI}(hs:satL rs m=true):∀x∈leastL rs n,x∈m:=fun x hx=>
 stage_in_model hd hs n x ((least_mem rs n x).1 hx)
theorem min_least {rs:LG}{n:Nat}(hd:∀r∈rs,DefIs r n){m:LI}(hm:incB n m=true)(hs:satL rs m=true):minL rs m=decide (leastL rs n=m):=by
 have hp:=inc_pair hm;have hlp:=inc_pair (least_inc rs n);rw[Bool.eq_iff_iff,minL_iff,decide_eq_true_eq];constructor
 ·rintro⟨_,h2⟩
  refine h2 _ (sub_of hlp hp (least_sub hd hs)) ?_;unfold satL;rw[List.all_eq_true];intro r hr;unfold satB;rw[(hd r hr).plain]
  cases hb:bodyB r (leastL rs n)with
  |false=>rfl
  |true=>
   by_cases h0:r.head=[]
   ·have h3:=List.all_eq_true.1 hs r hr;have h4:=body_mono (hd r hr) (least_sub hd hs) hb;unfold satB at h3;rw[(hd r hr).plain,h4,h0]at h3;simp at h3
   ·obtain⟨a,e,ha⟩:=least_closed hr (hd r hr) h0 hb
    rw[e];simp[ha]
 ·intro e
  exact⟨hs,fun s hsub hsat=>sub_eq hsub hp fun x hx=>least_sub hd hsat x (by rw[e];exact hx)⟩
theorem red_def {p:GProg}(hp:ProgIs p)(hd:disB p=false)(m:LI)(n:Nat)(hn:p.n=(n:Int)):∀r∈reductL p.rules m,DefIs r n:=fun c hc=>by
 obtain⟨h1,h2,h3⟩:=reductL_is m p.rules hp.rules c hc
 rw[hn]at h1
 refine⟨ruleE_is h1,h3,h2,?_⟩
 unfold reductL at hc
 obtain⟨r,hr,hx⟩:=List.mem_flatMap.1 hc
 unfold disB at hd;have h4:=List.any_eq_false.1 hd r hr;unfold redOne at hx
 split at hx
 ·cases hx
 ·split at hx
  ·obtain⟨a,_,rfl⟩:=List.mem_map.1 hx
   simp
  ·rename_i hch
   simp at hx;subst hx
   have:r.choice=false:=(by simpa using hch)
   rw[this]at h4;simp at h4;exact h4
theorem is_def {p:GProg}(hp:ProgIs p){m:LI}(hm:incB p.n m=true)(h0:0≤p.n):isL p m=(modelB p m && minL (reductL p.rules m) m):=by
 unfold isL
 cases hmod:modelB p m with
 |false=>rfl
 |true=>
  simp only[Bool.true_and]
  cases hd:disB p with
  |true=>simp
  |false=>
   simp only[Bool.false_eq_true,if_false];have e:p.n=((p.n.toNat:Nat):Int):=(by omega)
   have hs:satL (reductL p.rules m) m=true:=by
    unfold satL;rw[model_red m p.rules hp.rules];exact hmod
   rw[min_least (red_def hp hd m p.n.toNat e) (by rw[← e];exact hm) hs]
def lexLt:LI→LI→Bool
 |[],[]=>false
 |[],_::_=>true
 |_::_,[]=>false
 |a::r,b::t=>if a=b then lexLt r t else decide (a<b)
def cmpL:LI→LI→Int
 |[],[]=>0
 |[],_::_=>-1
 |_::_,[]=>1
 |a::r,b::t=>if a=b then cmpL r t else if a<b then -1 else 1
theorem cmpL_lt:∀a b:LI,decide (cmpL a b<0)=lexLt a b
 |[],[]=>rfl
 |[],_::_=>rfl
 |_::_,[]=>rfl
 |a::r,b::t=>by
  unfold cmpL lexLt
  by_cases h:a=b
  ·rw[if_pos h,if_pos h];exact cmpL_lt r t
  ·rw[if_neg h,if_neg h]
   by_cases h2:a<b
   ·rw[if_pos h2];simp[h2]
   ·rw[if_neg h2];simp[h2]
theorem lexLt_asymm:∀a b:LI,lexLt a b=true→lexLt b a=false
 |[],[],h=>by simp[lexLt]at h
 |[],_::_,_=>rfl
 |_::_,[],h=>by simp[lexLt]at h
 |a::r,b::t,h=>by
  unfold lexLt at h ⊢
  by_cases e:a=b
  ·subst e;simp only[if_true]at h ⊢;exact lexLt_asymm r t h
  ·rw[if_neg e]at h;rw[if_neg (fun x=>e x.symm)];simp at h ⊢;omega
theorem lexLt_irrefl (a:LI):lexLt a a=false:=by
 cases h:lexLt a a with
 |false=>rfl
 |true=>have:=lexLt_asymm a a h;rw[h]at this;cases this
theorem lexLt_trans:∀a b c:LI,lexLt a b=true→lexLt b c=true→lexLt a c=true
 |[],[],_,h,_=>by simp[lexLt]at h
 |_::_,[],_,h,_=>by simp[lexLt]at h
 |[],_::_,[],_,h=>by simp[lexLt]at h
 |[],_::_,_::_,_,_=>rfl
 |_::_,_::_,[],_,h=>by simp[lexLt]at h
 |a::r,b::t,c::u,h1,h2=>by
  unfold lexLt at *
  by_cases e1:a=b
  ·subst e1
   by_cases e2:a=c
   ·subst e2;simp only[if_true]at *;exact lexLt_trans r t u h1 h2
   ·rw[if_neg e2]at h2 ⊢;exact h2
  ·rw[if_neg e1]at h1
   by_cases e2:b=c
   ·subst e2;rw[if_neg e1];exact h1
   ·rw[if_neg e2]at h2;simp at h1 h2;rw[if_neg (by omega)]
    simp;omega
theorem lexLt_total:∀a b:LI,a≠b→lexLt a b=true∨lexLt b a=true
 |[],[],h=>absurd rfl h
 |[],_::_,_=>.inl rfl
 |_::_,[],_=>.inr rfl
 |a::r,b::t,h=>by
  unfold lexLt
  by_cases e:a=b
  ·subst e;simp only[if_true];exact lexLt_total r t (fun e2=>h (by rw[e2]))
  ·rw[if_neg e,if_neg (fun x=>e x.symm)]
   simp;omega
theorem lexS_mem:∀(m s:LI),s∈lexS m↔s.Sublist m
 |[],s=>by simp[lexS]
 |a::t,s=>by
  have ih:=lexS_mem t;have hh:∃u,lexS t=[]::u:=by cases t <;> exact⟨_,rfl⟩
  obtain⟨u,hu⟩:=hh
  unfold lexS;rw[List.mem_cons,List.mem_append,List.mem_map];constructor
  ·rintro(rfl | ⟨x,hx,rfl⟩ | hx)
   ·exact List.nil_sublist _
   ·exact((ih x).1 hx).cons_cons a
   ·exact((ih s).1 (List.mem_of_mem_tail hx)).cons a
  ·intro h;rcases List.sublist_cons_iff.1 h with h1 | ⟨s',rfl,h1⟩
   ·have:=(ih s).2 h1
    rw[hu]at this;rcases List.mem_cons.1 this with h2 | h2
    ·exact .inl h2
    ·exact .inr (.inr (by rw[hu];exact h2))
   ·exact .inr (.inl ⟨s',(ih s').2 h1,rfl⟩)
theorem lexS_sorted:∀{m:LI},m.Pairwise (· < ·)→(lexS m).Pairwise fun a b=>lexLt a b=true
 |[],_=>by simp[lexS]
 |a::t,h=>by
  rw[List.pairwise_cons]at h;have ih:=lexS_sorted h.2;have hh:∃u,lexS t=[]::u:=by cases t <;> exact⟨_,rfl⟩
  obtain⟨u,hu⟩:=hh
  have hu2:∀s∈u,s≠[]∧s.Sublist t:=fun s hs=>by
   rw[hu,List.pairwise_cons]at ih
   refine⟨fun e=>?_,(lexS_mem t s).1 (by rw[hu];simp[hs])⟩
   have:=ih.1 s hs
   rw[e]at this;simp[lexLt]at this
  unfold lexS;rw[List.pairwise_cons,List.pairwise_append]
  refine⟨fun s hs=>?_,?_,?_,fun x hx s hs=>?_⟩
  ·rcases List.mem_append.1 hs with h1 | h1
   ·obtain⟨x,_,rfl⟩:=List.mem_map.1 h1;rfl
   ·rw[hu]at h1
    cases s with
    |nil=>exact absurd rfl (hu2 _ h1).1
    |cons b r=>rfl
  ·refine List.Pairwise.map _ (fun x y hxy=>?_) ih;unfold lexLt;rw[if_pos rfl];exact hxy
  ·rw[hu]at ih ⊢
   exact(List.pairwise_cons.1 ih).2
  ·obtain⟨y,_,rfl⟩:=List.mem_map.1 hx
   rw[hu]at hs
   obtain⟨h1,h2⟩:=hu2 s hs
   cases s with
   |nil=>exact absurd rfl h1
   |cons b r=>
    have hb:b∈t:=h2.subset (by simp)
    have:=h.1 b hb
    unfold lexLt;rw[if_neg (by omega)]
    simp;exact this
theorem lex_ext:∀{xs ys:List (LI)},(xs.Pairwise fun a b=>lexLt a b=true)→(ys.Pairwise fun a b=>lexLt a b=true)→(∀x,x∈xs↔x∈ys)→xs=ys
 |[],[],_,_,_=>rfl
 |[],y::r,_,_,h=>by have:=(h y).2 (by simp);cases this
 |x::r,[],_,_,h=>by have:=(h x).1 (by simp);cases this
 |x::r,y::t,hx,hy,h=>by
  rw[List.pairwise_cons]at hx hy;have h1:=(h x).1 (by simp);have h2:=(h y).2 (by simp)
  have e:x=y:=by
   rcases List.mem_cons.1 h1 with e | h3
   ·exact e
   ·rcases List.mem_cons.1 h2 with e | h4
    ·exact e.symm
    ·have h5:=lexLt_asymm _ _ (hx.1 y h4);have h6:=hy.1 x h3;rw[h5]at h6;cases h6
  subst e
  congr 1
  refine lex_ext hx.2 hy.2 fun z=>?_;constructor
  ·intro hz;rcases List.mem_cons.1 ((h z).1 (by simp[hz]))with rfl | h5
   ·have:=hx.1 _ hz;rw[lexLt_irrefl]at this;cases this
   ·exact h5
  ·intro hz;rcases List.mem_cons.1 ((h z).2 (by simp[hz]))with rfl | h5
   ·have:=hy.1 _ hz;rw[lexLt_irrefl]at this;cases this
   ·exact h5
theorem atoms_pair (n:Nat):(atomsL n).Pairwise (· < ·):=by
 unfold atomsL;refine List.Pairwise.map _ (R:=fun a b:Nat=>a<b) (fun a b hab=>by omega) List.pairwise_lt_range
theorem atoms_mem (n:Nat)(x:Int):x∈atomsL n↔1≤x∧x≤(n:Int):=by
 unfold atomsL;rw[List.mem_map];constructor
 ·rintro⟨i,hi,rfl⟩
  have:=List.mem_range.1 hi;omega
 ·rintro⟨h1,h2⟩
  exact⟨(x-1).toNat,List.mem_range.2 (by omega),by omega⟩
theorem atoms_sub (n:Nat)(s:LI):s.Sublist (atomsL n)↔incB n s=true:=by
 constructor
 ·intro h;refine incB_sub ?_ h
  have:=inc_range n (fun _=>true)
  rw[List.filter_eq_self.2 (by simp)]at this;exact this
 ·intro h;exact sub_of (inc_pair h) (atoms_pair n) fun x hx=>(atoms_mem n x).2 (inc_mem h x hx)
theorem all_mem (p:GProg)(h0:0≤p.n)(m:LI):m∈allL p↔incB p.n m=true∧isL p m=true:=by
 unfold allL;rw[List.mem_filter,lexS_mem,atoms_sub,show ((p.n.toNat:Nat):Int)=p.n by omega]
theorem all_sorted (p:GProg):(allL p).Pairwise fun a b=>lexLt a b=true:=(lexS_sorted (atoms_pair _)).filter _

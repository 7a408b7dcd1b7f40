/- GL -/
import Derived.Test.YthdjkenhkedjjaaGreatG5
namespace Go.Proofs.YthdjkenhkedjjaaGreat
open Go.RowKit
theorem ord_len {n:Int}:∀(xs:LI)(y:Int),litB y n=true→ordGo n (some y) xs=true→(xs.length:Int)+(2*absI y+if y<0 then 1 else 0)≤2*n+1
 |[],y,hy,_=>by
  have h:=litB_bd hy;unfold absI;simp only[List.length_nil]
  split <;> omega
 |x::r,y,hy,h=>by
  rw[ordGo_cons]at h;simp only[Bool.and_eq_true]at h;have ih:=ord_len r x h.1.1 h.2;have h2:=h.1.2;have h3:=litB_bd h.1.1;unfold litLt at h2;simp only[Bool.or_eq_true,Bool.and_eq_true,decide_eq_true_eq]at h2;rw[List.length_cons];unfold absI at *
  split at ih <;> split at h2 <;> (try split at h2) <;> omega
theorem ordB_len {n:Int}(h0:0≤n){xs:LI}(h:ordB n xs=true):(xs.length:Int)≤2*n:=by
 cases xs with
 |nil=>simp;omega
 |cons x r=>
  unfold ordB at h;rw[ordGo_cons]at h;simp only[Bool.and_eq_true,and_true]at h;have h1:=ord_len r x h.1 h.2;have h2:x≠0:=by have:=h.1;simp[litB]at this;exact this.1
  rw[List.length_cons];unfold absI at h1
  split at h1 <;> omega
theorem inc_go_len:∀(xs:LI)(lo n:Int),xs.Pairwise (· < ·)→(∀x∈xs,lo<x∧x≤n)→lo≤n→(xs.length:Int)≤n-lo
 |[],lo,n,_,_,h=>by simp;omega
 |x::r,lo,n,hp,hx,h=>by
  rw[List.pairwise_cons]at hp;have h1:=hx x (by simp);have ih:=inc_go_len r x n hp.2 (fun y hy=>⟨hp.1 y hy,(hx y (by simp[hy])).2⟩) h1.2;rw[List.length_cons];omega
theorem inc_lenN {n:Int}(h0:0≤n){xs:LI}(h:incB n xs=true):(xs.length:Int)≤n:=by
 have:=inc_go_len xs 0 n (inc_pair h) (fun x hx=>by have:=inc_mem h x hx;omega) h0
 omega
theorem bodyC_rule {r:GRule}{n:Int}(h:RuleIs r n)(m:LI):bodyC r m=bodyB r m:=by
 have hl:=ordB_len h.n0 h.body;have hn:=h.n1;have hsum:r.sum=true→(∀x∈r.w,1≤x)∧0+r.w.sum≤1048576:=fun hs=>wtGo_spec r.w 0 (by omega) (by omega) (h.wt hs);unfold bodyC
 rw[bad_of (by omega) (fun x hx=>by
  have h1:=ordGo_mem n r.body none h.body x hx;have h2:=litB_bd h1;have h4:x≠0:=by simp[litB]at h1;exact h1.1
  omega) h.wlen]
 cases hs:r.sum with
 |false=>simp
 |true=>
  obtain⟨h1,h2⟩:=hsum hs
  simp[wOut_ok (l:=r.w) fun y hy=>by
   have:=mem_le_sum h1 hy
   have:=h1 y hy
   omega]
def litM (m s:LI)(x:Int):Bool:=if 0<x then decide (x∈s)else !decide (-x∈m)
def sumG (f:Int→Bool):LI→LI→Int
 |x::xs,y::ys=>(if f x then y else 0)+sumG f xs ys
 |_,_=>0
theorem sumG_congr {f g:Int→Bool}:∀(xs ys:LI),(∀x∈xs,f x=g x)→sumG f xs ys=sumG g xs ys
 |[],_,_=>by simp[sumG]
 |_::_,[],_=>by simp[sumG]
 |x::xs,y::ys,h=>by
  unfold sumG;rw[h x (by simp),sumG_congr xs ys fun z hz=>h z (by simp[hz])]
theorem sumG_true (m:LI):∀(xs ys:LI),sumT xs ys m=sumG (fun x=>trueB x m) xs ys
 |[],ys=>by simp[sumT,sumG]
 |_::_,[]=>by simp[sumT,sumG]
 |x::xs,y::ys=>by rw[sumT_cons,sumG,sumG_true m xs ys]
def bodyM (r:GRule)(m s:LI):Bool:=if r.sum then decide (r.bound≤sumG (litM m s) r.body r.w)else r.body.all (litM m s)
theorem bodyM_self (r:GRule)(m:LI):bodyM r m m=bodyB r m:=by
 unfold bodyM bodyB;rw[sumG_true];rfl
def redB (r:GRule)(m s:LI):Bool:=!bodyM r m s || (if r.choice then r.head.all (fun a=>!decide (a∈m) || decide (a∈s))else r.head.any (fun a=>decide (a∈s)))
theorem sumG_split (m s:LI):∀(xs ys:LI),ys.length=xs.length→sumG (litM m s) xs ys=negS m (xs.zip ys)+sumT (xs.filter isPos) (posW (xs.zip ys)) s
 |[],ys,h=>by
  have:ys=[]:=List.eq_nil_of_length_eq_zero (by simpa using h)
  subst this;simp[sumG,sumT,negS,posW]
 |x::xs,[],h=>by simp at h
 |x::xs,y::ys,h=>by
  have ih:=sumG_split m s xs ys (by simpa using h);rw[sumG,ih,List.zip_cons_cons,negS]
  by_cases hx:isPos x=true
  ·have h0:0<x:=by simpa[isPos]using hx
   have e1:posW ((x,y)::xs.zip ys)=y::posW (xs.zip ys):=(by simp[posW,hx]);rw[List.filter_cons_of_pos hx,e1,sumT_cons,if_neg (by omega:¬(x≤0∧-x∉m))];rw[show litM m s x=trueB x s from by unfold litM trueB;rw[if_pos h0,if_pos h0]];omega
  ·have h0:¬0<x:=by simpa[isPos]using hx
   have e1:posW ((x,y)::xs.zip ys)=posW (xs.zip ys):=(by simp[posW,hx]);rw[List.filter_cons_of_neg hx,e1];unfold litM;rw[if_neg h0]
   by_cases hm : -x∈m
   ·rw[if_neg (by simp[hm]),if_neg (fun h=>h.2 hm)];omega
   ·rw[if_pos (by simp[hm]),if_pos ⟨by omega,hm⟩];omega
theorem body_redM {r:GRule}{n:Int}(hi:RuleIs r n){m:LI}(hd:dropB r m=false)(s:LI):bodyB (posRule r m) s=bodyM r m s:=by
 by_cases hs:r.sum=true
 ·have hw:=wtGo_spec r.w 0 (by omega) (by omega) (hi.wt hs);have hsp:=sumG_split m s r.body r.w (hi.wlen hs)
  have hnn:=sumT_nonneg s (r.body.filter isPos) (posW (zp r)) fun y hy=>by
   obtain⟨x,hx⟩:=posW_mem hy
   have:=hw.1 y (List.of_mem_zip hx).2;omega
  change sumG (litM m s) r.body r.w=negS m (zp r)+sumT (r.body.filter isPos) (posW (zp r)) s at hsp;unfold posRule;rw[if_pos hs];have hb:bodyM r m s=decide (r.bound≤sumG (litM m s) r.body r.w):=by unfold bodyM;rw[if_pos hs]
  rw[hb,hsp]
  by_cases hz:r.bound-negS m (zp r)≤0
  ·rw[if_pos hz,decide_eq_true (by omega)];rfl
  ·rw[if_neg hz];show decide (r.bound-negS m (zp r)≤sumT (r.body.filter isPos) (posW (zp r)) s)=_;rw[Bool.eq_iff_iff,decide_eq_true_eq,decide_eq_true_eq];omega
 ·have hf:r.sum=false:=by simpa using hs
  unfold dropB at hd;rw[hf]at hd;simp only[Bool.not_false,Bool.true_and,List.any_eq_false]at hd;unfold posRule bodyB bodyM;simp only[hf,Bool.false_eq_true,if_false];rw[all_filter (p:=litM m s) (q:=isPos) r.body fun x hx hq=>?_]
  ·rw[Bool.eq_iff_iff,List.all_eq_true,List.all_eq_true];refine forall_congr' fun x=>?_;constructor
   ·intro h hx;have h0:0<x:=(by simpa[isPos]using(List.mem_filter.1 hx).2)
    have:=h hx
    unfold trueB at this;rw[if_pos h0]at this;unfold litM;rw[if_pos h0];exact this
   ·intro h hx;have h0:0<x:=(by simpa[isPos]using(List.mem_filter.1 hx).2)
    have:=h hx
    unfold litM at this;rw[if_pos h0]at this;unfold trueB;rw[if_pos h0];exact this
  ·have:=hd x hx
   unfold badL at this;rw[hq]at this;simp at this;have h0:¬0<x:=(by simpa[isPos]using hq);unfold litM;rw[if_neg h0];simp[this]
theorem drop_bodyM {r:GRule}{m:LI}(hd:dropB r m=true)(s:LI):bodyM r m s=false:=by
 unfold dropB at hd;simp only[Bool.and_eq_true,Bool.not_eq_true',List.any_eq_true]at hd
 obtain⟨hf,x,hx,hb⟩:=hd
 unfold bodyM;rw[hf];simp only[Bool.false_eq_true,if_false];rw[List.all_eq_false]
 refine⟨x,hx,?_⟩
 unfold badL at hb;simp only[Bool.and_eq_true,Bool.not_eq_true',decide_eq_true_eq]at hb;have h0:¬0<x:=by simpa[isPos]using hb.1
 unfold litM;rw[if_neg h0];simp[hb.2]
theorem satB_headM {r:GRule}{m hs s:LI}:satB { posRule r m with head:=hs } s=(!bodyB (posRule r m) s || hs.any fun a=>decide (a∈s)):=by
 unfold satB;rw[show ({ posRule r m with head:=hs }:GRule).choice=false from posRule_choice r m,Bool.false_or]
 rfl
theorem red_satM {r:GRule}{n:Int}(hi:RuleIs r n)(m s:LI):(redOne m r).all (fun x=>satB x s)=redB r m s:=by
 unfold redOne;split
 ·rename_i hd
  unfold redB;rw[drop_bodyM hd];simp
 ·rename_i hd
  have hd:dropB r m=false:=by simpa using hd
  unfold redB;rw[← body_redM hi hd s];split
  ·rename_i hc
   have e:∀a:Int,satB ({ posRule r m with head:=[a] }:GRule) s=(!bodyB (posRule r m) s || decide (a∈s)):=fun a=>by rw[satB_headM];simp
   rw[List.all_map,List.all_filter];simp only[Function.comp_def,e]
   cases bodyB (posRule r m) s with
   |false=>simp
   |true=>simp
  ·rename_i hc
   rw[List.all_cons,List.all_nil,Bool.and_true,satB_headM]
theorem red_allM {n:Int}(m s:LI):∀(rs:LG),(∀r∈rs,RuleIs r n)→satL (reductL rs m) s=rs.all (fun r=>redB r m s)
 |[],_=>rfl
 |r::t,h=>by
  have ih:=red_allM m s t fun x hx=>h x (by simp[hx]);rw[show reductL (r::t) m=redOne m r++reductL t m by simp[reductL],satL_append,ih,List.all_cons];rw[← red_satM (h r (by simp)) m s];rfl
theorem litM_congr {m s m' s':LI}{x:Int}(hm : -x∈m↔-x∈m')(hs:x∈s↔x∈s'):litM m s x=litM m' s' x:=by
 unfold litM;split
 ·rw[Bool.eq_iff_iff,decide_eq_true_eq,decide_eq_true_eq];exact hs
 ·rw[show decide (-x∈m)=decide (-x∈m') from by rw[Bool.eq_iff_iff,decide_eq_true_eq,decide_eq_true_eq];exact hm]
theorem bodyM_congr {r:GRule}{m s m' s':LI}(hm:∀x∈r.body,(-x∈m↔-x∈m'))(hs:∀x∈r.body,(x∈s↔x∈s')):bodyM r m s=bodyM r m' s':=by
 have e:∀x∈r.body,litM m s x=litM m' s' x:=fun x hx=>litM_congr (hm x hx) (hs x hx);unfold bodyM;rw[sumG_congr _ _ e]
 rw[show r.body.all (litM m s)=r.body.all (litM m' s') from by
  rw[Bool.eq_iff_iff,List.all_eq_true,List.all_eq_true];exact forall_congr' fun x=>⟨fun h hx=>by rw[← e x hx];exact h hx,fun h hx=>by rw[e x hx];exact h hx⟩]
theorem redB_congr {r:GRule}{m s m' s':LI}(hm:∀x∈r.body,(-x∈m↔-x∈m'))(hs:∀x∈r.body,(x∈s↔x∈s'))(hh:∀a∈r.head,(a∈m↔a∈m')∧(a∈s↔a∈s')):redB r m s=redB r m' s':=by
 have d:∀{a:Int} {u v:LI},(a∈u↔a∈v)→decide (a∈u)=decide (a∈v):=fun h=>by rw[Bool.eq_iff_iff,decide_eq_true_eq,decide_eq_true_eq];exact h
 unfold redB;rw[bodyM_congr hm hs]
 rw[show (r.head.all fun a=>!decide (a∈m) || decide (a∈s))=(r.head.all fun a=>!decide (a∈m') || decide (a∈s')) from by
  rw[Bool.eq_iff_iff,List.all_eq_true,List.all_eq_true];exact forall_congr' fun a=>⟨fun h ha=>by rw[← d (hh a ha).1,← d (hh a ha).2];exact h ha,fun h ha=>by rw[d (hh a ha).1,d (hh a ha).2];exact h ha⟩]
 rw[show (r.head.any fun a=>decide (a∈s))=(r.head.any fun a=>decide (a∈s')) from by
  rw[Bool.eq_iff_iff,List.any_eq_true,List.any_eq_true];exact exists_congr fun a=>⟨fun⟨ha,h⟩=>⟨ha,by rw[← d (hh a ha).2];exact h⟩,fun⟨ha,h⟩=>⟨ha,by rw[d (hh a ha).2];exact h⟩⟩]
theorem isL_sem {p:GProg}(hp:ProgIs p){m:LI}(hm:incB p.n m=true)(h0:0≤p.n):
  isL p m=true↔(∀r∈p.rules,satB r m=true)∧∀s:LI,(∀x∈s,x∈m)→(∀r∈p.rules,redB r m s=true)→∀x∈m,x∈s:=by
 rw[is_def hp hm h0,Bool.and_eq_true,minL_iff,red_allM m m p.rules hp.rules];have hmod:modelB p m=true↔∀r∈p.rules,satB r m=true:=by unfold modelB;rw[List.all_eq_true]
 constructor
 ·rintro⟨h1,h2,h3⟩
  refine⟨hmod.1 h1,fun s hs hr x hx=>?_⟩
  have hf:=h3 (m.filter fun x=>decide (x∈s)) List.filter_sublist (by
   rw[red_allM m _ p.rules hp.rules,List.all_eq_true];intro r hr';rw[← hr r hr']
   have e:∀a:Int,a∈m.filter (fun x=>decide (x∈s))↔a∈s:=fun a=>by
    rw[List.mem_filter,decide_eq_true_eq]
    exact⟨fun h=>h.2,fun h=>⟨hs a h,h⟩⟩
   exact redB_congr (fun _ _=>Iff.rfl) (fun a _=>e a) (fun a _=>⟨Iff.rfl,e a⟩))
  rw[← hf]at hx
  simpa using(List.mem_filter.1 hx).2
 ·rintro⟨h1,h2⟩
  refine⟨hmod.2 h1,?_,fun s hs hsat=>?_⟩
  ·rw[List.all_eq_true];intro r hr
   have:=h1 r hr
   unfold redB;rw[bodyM_self];unfold satB at this
   cases hb:bodyB r m with
   |false=>rfl
   |true=>
    rw[hb]at this
    cases hc:r.choice with
    |true=>simp
    |false=>rw[hc]at this;simpa using this
  ·rw[red_allM m s p.rules hp.rules,List.all_eq_true]at hsat;exact sub_eq hs (inc_pair hm) (h2 s (fun x hx=>hs.mem hx) hsat)
open Go.RowKit
theorem ex_litB {x n n':Int}(h:litB x n=true)(hn:n≤n'):litB x n'=true:=by
 unfold litB at h ⊢;simp only[Bool.and_eq_true,bne_iff_ne,decide_eq_true_eq]at h ⊢;omega
theorem ex_ordGo {n n':Int}(hn:n≤n'):∀(xs:LI)(q:Option Int),ordGo n q xs=true→ordGo n' q xs=true
 |[],_,_=>rfl
 |x::r,q,h=>by
  rw[ordGo_cons,Bool.and_eq_true,Bool.and_eq_true]at h ⊢
  exact⟨⟨ex_litB h.1.1 hn,h.1.2⟩,ex_ordGo hn r _ h.2⟩
theorem ex_incB {n n':Int}{xs:LI}(h:incB n xs=true)(hn:n≤n'):incB n' xs=true:=by
 unfold incB ordB at h ⊢;rw[Bool.and_eq_true]at h ⊢
 exact⟨ex_ordGo hn _ _ h.1,h.2⟩
theorem ex_ruleE {r:GRule}{n:Int}(h:RuleIs r n):ruleE r n=0:=by
 have h0:=h.n0;have h1:=h.n1;unfold ruleE
 rw[if_neg (by omega),if_neg (by
  rw[h.head];rintro(e | ⟨e,f⟩)
  ·cases e
  ·exact h.choice e (List.eq_nil_of_length_eq_zero f)),if_neg (by rw[h.body];simp),if_neg ?_]
 rintro(⟨e,f⟩ | ⟨e,f⟩)
 ·have:=h.plain e
  rw[this.1,this.2]at f;simp at f
 ·have a:=h.wt e;have b:=h.wlen e;have c:=h.b0 e;have d:=h.b1 e;unfold wtB at f;rw[a,b]at f;simp at f;omega
theorem RuleIs.wide {r:GRule}{n n':Int}(h:RuleIs r n)(hn:n≤n')(h4:n'≤4000):RuleIs r n':=
 { h with n0:=by have:=h.n0;omega,n1:=h4,head:=ex_incB h.head hn,body:=ex_ordGo hn _ _ h.body }
theorem ex_minGo {n n':Int}(hn:n≤n'):∀(xs:List GMin)(q:Option GMin),minGoE n q xs=true→minGoE n' q xs=true
 |[],_,_=>rfl
 |x::r,q,h=>by
  rw[minGoE_cons,Bool.and_eq_true,Bool.and_eq_true]at h ⊢
  refine⟨⟨?_,h.1.2⟩,ex_minGo hn r _ h.2⟩
  have h1:=h.1.1;unfold minOk at h1 ⊢;simp only[Bool.and_eq_true]at h1 ⊢
  exact⟨⟨⟨ex_ordGo hn _ _ h1.1.1.1,h1.1.1.2⟩,h1.1.2⟩,h1.2⟩
theorem ex_zeros (k:Nat):∀seen:List ByteArray,(∀t∈seen,t.size≠0)→namesGo seen (List.replicate k ByteArray.empty)=true:=by
 induction k with
 |zero=>intro _ _;rfl
 |succ k ih=>
  intro seen hs;rw[List.replicate_succ,namesGo_cons]
  have h1:hasS ByteArray.empty seen=false:=by
   unfold hasS;rw[List.any_eq_false];intro t ht e;have e:=of_decide_eq_true e;exact hs t ht (by rw[e];rfl)
  rw[h1,if_pos (by rfl),ih seen hs]
  decide
theorem ex_names (k:Nat):∀(xs seen:List ByteArray),(∀t∈seen,t.size≠0)→namesGo seen xs=true→namesGo seen (xs++List.replicate k ByteArray.empty)=true
 |[],seen,hs,_=>ex_zeros k seen hs
 |x::r,seen,hs,h=>by
  rw[List.cons_append,namesGo_cons,Bool.and_eq_true];rw[namesGo_cons,Bool.and_eq_true]at h
  refine⟨h.1,ex_names k r _ ?_ h.2⟩
  split
  ·exact hs
  ·rename_i h0
   intro t ht;rcases List.mem_cons.1 ht with e | e
   ·rw[e];exact h0
   ·exact hs t e
theorem ex_rulesE {n:Int}:∀rs:LG,(∀r∈rs,ruleE r n=0)→rulesE n rs=0
 |[],_=>rfl
 |r::t,h=>by
  unfold rulesE;rw[if_pos (h r (by simp))];exact ex_rulesE t fun x hx=>h x (by simp[hx])
theorem ex_validE {p:GProg}(h:ProgIs p):validE p=0:=by
 unfold validE;have h2:=h.few;have h4:=h.mins;rw[if_neg (by rw[h.named];simp),if_neg (by omega),if_neg (by rw[ex_rulesE p.rules fun r hr=>ex_ruleE (h.rules r hr)];simp),if_neg (by omega),if_neg (by rw[h.min];simp)]

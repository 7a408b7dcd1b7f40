/- GSb -/
import Derived.Test.YthdjkenhkedjjaaGreatGU
import Derived.Test.YthdjkenhkedjjaaGreatGSa
import Derived.Test.YthdjkenhkedjjaaGreatGQ
import Derived.Test.YthdjkenhkedjjaaGreatGN
namespace Go.Proofs.YthdjkenhkedjjaaGreat
open Go.RowKit
theorem disN_rev:∀rs:LI,disN rs.reverse≤rs.length∧(disN rs.reverse=rs.length↔rs.Nodup)
 |[]=>⟨by simp[disN,disL],by simp[disN,disL]⟩
 |a::r=>by
  obtain⟨h1,h2⟩:=disN_rev r
  rw[List.reverse_cons,disN_snoc,List.length_cons,List.nodup_cons];split
  ·rename_i h
   rw[List.mem_reverse]at h
   refine⟨by omega,?_⟩
   constructor
   ·intro q;omega
   ·intro q;exact absurd h q.1
  ·rename_i h
   rw[List.mem_reverse]at h
   refine⟨by omega,?_⟩
   rw[show disN r.reverse+1=r.length+1↔disN r.reverse=r.length from by omega,h2]
   exact⟨fun q=>⟨h,q⟩,fun q=>q.2⟩
theorem disN_lt (ks:LI):disN ks<ks.length↔¬ks.Nodup:=by
 obtain⟨h1,h2⟩:=disN_rev ks.reverse
 rw[List.reverse_reverse,List.length_reverse]at h1 h2;have h3:ks.reverse.Nodup↔ks.Nodup:=by unfold List.Nodup;rw[List.pairwise_reverse];exact⟨fun h=>h.imp Ne.symm,fun h=>h.imp Ne.symm⟩
 rw[h3]at h2;rw[← h2];omega
def sfP (p:GProg):GProg:=extP { p with rules:=[] } (sfC p.rules) (sfL p.rules p.n)
theorem pre_of {r:GRule}{n N:Int}(h:RuleIs r n)(hn:n≤N)(hN:N≤4000):PreRule r N:=by
 have h0:=h.n0;have h1:=h.n1
 refine⟨by omega,hN,fun a ha=>?_,h.choice,fun x hx=>ex_litB (ord_lit h.body x hx) hn,h.plain,h.wlen,h.wt,h.b0,h.b1,?_,?_⟩
 ·have:=inc_mem h.head a ha;omega
 ·have:=inc_lenN h0 h.head;omega
 ·have:=ordB_len h0 h.body;omega
theorem sf_pre1 {r x:GRule}{n N:Int}{k:Nat}(h:RuleIs r n)(hk:n+(k:Int)+(sfN r:Int)≤N)(hN:N≤4000)(hx:x∈sfRule r (n+(k:Int)+1)):PreRule x N:=by
 have h0:=h.n0;have hn:n≤N:=(by omega);have hp:=pre_of h hn hN;unfold sfRule at hx
 split at hx
 ·rename_i hd
  rcases List.mem_append.1 hx with h1 | h1
  ·unfold sfU at h1
   split at h1
   ·rename_i hs
    rw[List.mem_singleton]at h1;subst h1;have hk1:sfN r=1:=(by unfold sfN;rw[hd,hs];rfl)
    refine⟨hp.n0,hN,fun a ha=>?_,(by intro e;cases e),hp.body,(by intro e;cases e),fun _=>hp.wlen hs,fun _=>hp.wt hs,fun _=>hp.b0 hs,fun _=>hp.b1 hs,(by simp[sfX]),hp.bl⟩
    have:a=n+(k:Int)+1:=(by simpa[sfX]using ha)
    omega
   ·cases h1
  ·obtain⟨a,ha,rfl⟩:=List.mem_map.1 h1
   have hA:=inc_mem h.head a ha
   refine⟨hp.n0,hN,fun b hb=>?_,(by intro e;cases e),fun y hy=>?_,fun _=>⟨rfl,rfl⟩,(by intro e;cases e),(by intro e;cases e),(by intro e;cases e),(by intro e;cases e),(by simp[sfH]),?_⟩
   ·have:b=a:=(by simpa[sfH]using hb)
    omega
   ·rcases List.mem_append.1 hy with h2 | h2
    ·unfold sfB at h2
     split at h2
     ·rename_i hs
      have hk1:sfN r=1:=(by unfold sfN;rw[hd,hs];rfl);rw[List.mem_singleton]at h2;rw[litB_iff];omega
     ·exact hp.body y h2
    ·obtain⟨o,ho,_,rfl⟩:=sfO_mem.1 h2
     have:=inc_mem h.head o ho
     rw[litB_iff];omega
   ·show (sfB r _++sfO r a).length≤100000;have h2:=inc_lenN h0 h.head;have h3:=ordB_len h0 h.body;have h4:=h.n1;have h5:(sfO r a).length≤r.head.length:=(by unfold sfO;rw[List.length_map];exact List.length_filter_le _ _);have h6:(sfB r (n+(k:Int)+1)).length≤r.body.length+1:=(by unfold sfB;split <;> simp);rw[List.length_append];omega
 ·rw[List.mem_singleton]at hx;subst hx;exact hp
structure SfOk (p:GProg):Prop where
 n:p.n+(sfC p.rules:Int)≤4000
 l:(sfL p.rules p.n).length≤40000
theorem sf_pre {p:GProg}(hi:ProgIs p)(h:p.n+(sfC p.rules:Int)≤4000):∀x∈sfL p.rules p.n,PreRule x (p.n+(sfC p.rules:Int)):=fun x hx=>by
 obtain⟨r,hr,k,hk,hx⟩:=sfL_mem hx
 exact sf_pre1 (hi.rules r hr) (by omega) h hx
theorem sf_is {p:GProg}(hi:ProgIs p)(h:SfOk p):ProgIs (sfP p):=by
 have hb:ProgIs { p with rules:=[] }:=⟨hi.named,by simp,by simp,hi.mins,hi.min⟩;exact extP_is hb h.n (by simpa using h.l) fun x hx=>norm_is (sf_pre hi h.n x hx)
theorem sf_small {p:GProg}(hi:ProgIs p)(hn:p.n≤12)(hr:p.rules.length≤20):SfOk p:=by
 have h0:=(namedB_n hi.named).1
 refine⟨?_,?_⟩
 ·have:=sfC_len p.rules;omega
 ·have h1:=sfL_len (N:=12) p.rules p.n fun r hm=>by
   have:=inc_lenN h0 (hi.rules r hm).head;omega
  have:(12+1)*p.rules.length≤13*20:=Nat.mul_le_mul (by omega) hr
  omega
def shiftE (fr:Bool)(p:GProg):Int:=if validE p≠0 then validE p else if fr then 0 else 220
def sfA (rs:LG)(n:Int)(k:Nat):Int:=n+(sfC (rs.take k):Int)+1
theorem sfL_at {z:GRule}{rs:LG}{n:Int}:z∈sfL rs n↔∃k r,rs[k]? = some r∧z∈sfRule r (sfA rs n k):=by
 induction rs generalizing n with
 |nil=>simp[sfL]
 |cons r t ih=>
  unfold sfL;rw[List.mem_append,ih];constructor
  ·rintro(h | ⟨k,q,hk,h⟩)
   ·exact⟨0,r,rfl,by unfold sfA;simpa[sfC]using h⟩
   ·refine⟨k+1,q,by simpa using hk,?_⟩
    have e:sfA (r::t) n (k+1)=sfA t (n+(sfN r:Int)) k:=by
     unfold sfA;rw[List.take_succ_cons]
     have:sfC (r::t.take k)=sfN r+sfC (t.take k):=rfl
     rw[this];omega
    rw[e];exact h
  ·rintro⟨k,q,hk,h⟩
   cases k with
   |zero=>simp at hk;subst hk;exact .inl (by unfold sfA at h;simpa[sfC]using h)
   |succ k=>
    refine .inr ⟨k,q,by simpa using hk,?_⟩
    have e:sfA (r::t) n (k+1)=sfA t (n+(sfN r:Int)) k:=by
     unfold sfA;rw[List.take_succ_cons]
     have:sfC (r::t.take k)=sfN r+sfC (t.take k):=rfl
     rw[this];omega
    rw[← e];exact h
def lfF (f:GRule→Bool):LG→Int→LI
 |[],_=>[]
 |r::t,n=>(if (djB r && r.sum) && f r then [n+1]else [])++lfF f t (n+(sfN r:Int))
theorem lfF_mem {f:GRule→Bool}{a:Int}{rs:LG}{n:Int}:a∈lfF f rs n↔∃k r,rs[k]? = some r∧(djB r && r.sum)=true∧f r=true∧a=sfA rs n k:=by
 induction rs generalizing n with
 |nil=>simp[lfF]
 |cons r t ih=>
  unfold lfF;rw[List.mem_append,ih]
  have e:∀k,sfA (r::t) n (k+1)=sfA t (n+(sfN r:Int)) k:=fun k=>by
   unfold sfA;rw[List.take_succ_cons]
   have:sfC (r::t.take k)=sfN r+sfC (t.take k):=rfl
   rw[this];omega
  constructor
  ·rintro(h | ⟨k,q,hk,h1,h2,h3⟩)
   ·split at h
    ·rename_i hc
     rw[Bool.and_eq_true]at hc;rw[List.mem_singleton]at h
     exact⟨0,r,rfl,hc.1,hc.2,by unfold sfA;simpa[sfC]using h⟩
    ·cases h
   ·exact⟨k+1,q,by simpa using hk,h1,h2,by rw[e];exact h3⟩
  ·rintro⟨k,q,hk,h1,h2,h3⟩
   cases k with
   |zero=>simp at hk;subst hk;rw[if_pos (by rw[h1,h2];rfl)];exact .inl (by unfold sfA at h3;simpa[sfC]using h3)
   |succ k=>exact .inr ⟨k,q,by simpa using hk,h1,h2,by rw[← e];exact h3⟩
theorem lfF_snoc (f:GRule→Bool):∀(rs:LG)(n:Int)(r:GRule),lfF f (rs++[r]) n=lfF f rs n++(if (djB r && r.sum) && f r then [n+(sfC rs:Int)+1]else [])
 |[],n,r=>by simp[lfF,sfC]
 |x::t,n,r=>by
  have h:=lfF_snoc f t (n+(sfN x:Int)) r;rw[List.cons_append];unfold lfF;rw[h,List.append_assoc]
  have:sfC (x::t)=sfN x+sfC t:=rfl
  rw[this,show n+(sfN x:Int)+(sfC t:Int)+1=n+((sfN x+sfC t:Nat):Int)+1 by omega]
theorem lfF_len (f:GRule→Bool):∀(rs:LG)(n:Int),(lfF f rs n).length≤sfC rs
 |[],n=>Nat.le_refl _
 |x::t,n=>by
  have h:=lfF_len f t (n+(sfN x:Int));unfold lfF;show _≤sfN x+sfC t;rw[List.length_append]
  have:(if ((djB x && x.sum) && f x)=true then [n+1]else ([]:LI)).length≤sfN x:=by
   unfold sfN
   cases djB x && x.sum <;> simp
   split <;> simp
  omega
def liftL (p:GProg)(m:LI):LI:=m++lfF (fun r=>bodyB r m) p.rules p.n
theorem sfA_gt (rs:LG)(n:Int)(k:Nat):n<sfA rs n k:=by unfold sfA;omega
theorem sfA_le {rs:LG}{n:Int}{k:Nat}{r:GRule}(h:rs[k]? = some r)(hd:(djB r && r.sum)=true):sfA rs n k≤n+(sfC rs:Int):=by
 have h1:=sfC_take h;have h2:=sfC_le rs (k+1);have h3:sfN r=1:=by unfold sfN;rw[hd];rfl
 unfold sfA;omega
theorem sfC_mono (rs:LG){j k:Nat}(h:j≤k):sfC (rs.take j)≤sfC (rs.take k):=by
 have:=sfC_le (rs.take k) j
 rwa [List.take_take,Nat.min_eq_left h]at this
theorem sfA_inj {rs:LG}{n:Int}{j k:Nat}{r q:GRule}(hj:rs[j]? = some r)(hk:rs[k]? = some q)(hr:(djB r && r.sum)=true)(hq:(djB q && q.sum)=true)(h:sfA rs n j=sfA rs n k):j=k:=by
 have h1:=sfC_take hj;have h2:=sfC_take hk;have h3:sfN r=1:=by unfold sfN;rw[hr];rfl
 have h4:sfN q=1:=by unfold sfN;rw[hq];rfl
 unfold sfA at h;rcases Nat.lt_trichotomy j k with hlt | rfl | hlt
 ·have:=sfC_mono rs (show j+1≤k by omega);omega
 ·rfl
 ·have:=sfC_mono rs (show k+1≤j by omega);omega
theorem sfA_all:∀{rs:LG}{n a:Int},n<a→a≤n+(sfC rs:Int)→∃k r,rs[k]? = some r∧(djB r && r.sum)=true∧a=sfA rs n k
 |[],n,a,h1,h2=>by simp[sfC]at h2;omega
 |r::t,n,a,h1,h2=>by
  have e:∀k,sfA (r::t) n (k+1)=sfA t (n+(sfN r:Int)) k:=fun k=>by
   unfold sfA;rw[List.take_succ_cons]
   have:sfC (r::t.take k)=sfN r+sfC (t.take k):=rfl
   rw[this];omega
  have hc:sfC (r::t)=sfN r+sfC t:=rfl
  by_cases hx:n+(sfN r:Int)<a
  ·obtain⟨k,q,hk,hq,ha⟩:=sfA_all (rs:=t) hx (by omega)
   exact⟨k+1,q,by simpa using hk,hq,by rw[e];exact ha⟩
  ·have h3:=sfN_le r;have h4:sfN r=1:=(by omega)
   have hd:(djB r && r.sum)=true:=by
    unfold sfN at h4
    split at h4
    ·assumption
    ·cases h4
   exact⟨0,r,rfl,hd,by unfold sfA;simp[sfC];omega⟩
def Agr (n:Int)(m S:LI):Prop:=∀a,a≤n→(a∈S↔a∈m)
theorem agr_add {n:Int}{m new:LI}(h:∀a∈new,n<a):Agr n m (m++new):=fun a ha=>by
 rw[List.mem_append]
 exact⟨fun hx=>hx.elim id fun h2=>by have:=h a h2;omega,.inl⟩
theorem agr_dec {n:Int}{m S:LI}(h:Agr n m S){a:Int}(ha:a≤n):decide (a∈S)=decide (a∈m):=by
 rw[Bool.eq_iff_iff,decide_eq_true_eq,decide_eq_true_eq];exact h a ha
theorem body_agr {n:Int}{m s M S:LI}(hm:Agr n m M)(hs:Agr n s S){r:GRule}(hr:RuleIs r n):bodyM r M S=bodyM r m s:=
 bodyM_congr (fun x hx=>by have:=litB_iff.1 (ord_lit hr.body x hx);exact hm _ (by omega)) (fun x hx=>by have:=litB_iff.1 (ord_lit hr.body x hx);exact hs _ (by omega))
theorem red_agr {n:Int}{m s M S:LI}(hm:Agr n m M)(hs:Agr n s S){r:GRule}(hr:RuleIs r n):redB r M S=redB r m s:=
 redB_congr (fun x hx=>by have:=litB_iff.1 (ord_lit hr.body x hx);exact hm _ (by omega)) (fun x hx=>by have:=litB_iff.1 (ord_lit hr.body x hx);exact hs _ (by omega)) (fun a ha=>by have:=inc_mem hr.head a ha;exact⟨hm _ (by omega),hs _ (by omega)⟩)
theorem redB_norm (r:GRule)(m s:LI):redB (normR r) m s=redB r m s:=by
 unfold redB;rw[bodyM_norm];rw[show (normR r).head=litsOf r.head from rfl,all_lits,any_lits];rfl
theorem satB_norm (r:GRule)(m:LI):satB (normR r) m=satB r m:=by
 unfold satB;rw[← bodyM_self,← bodyM_self,bodyM_norm];rw[show (normR r).head=litsOf r.head from rfl,any_lits];rfl
theorem sat_redB {r:GRule}(h:r.choice=false)(m:LI):satB r m=redB r m m:=by
 unfold satB redB;rw[bodyM_self,h];simp
theorem red_sfX {n:Int}{m s M S:LI}(hm:Agr n m M)(hs:Agr n s S){r:GRule}(hr:RuleIs r n)(hsum:r.sum=true)(x:Int):redB (sfX r x) M S=(!bodyM r m s || decide (x∈S)):=by
 have e:bodyM (sfX r x) M S=bodyM r M S:=by unfold bodyM sfX;simp[hsum]
 unfold redB;rw[e,body_agr hm hs hr];simp[sfX]
theorem red_sfH {n:Int}{m s M S:LI}(hm:Agr n m M)(hs:Agr n s S){r:GRule}(hr:RuleIs r n){x h:Int}(hx:0<x)(hh:h∈r.head):
  redB (sfH r x h) M S=true↔((if r.sum then x∈S else bodyM r m s=true)→(∀o∈r.head,o≠h→o∉m)→h∈s):=by
 have hn:=hr.n0
 have h1:bodyM (sfH r x h) M S=((sfB r x).all (litM M S) && (sfO r h).all (litM M S)):=by
  unfold bodyM;rw[if_neg (by simp[sfH])];show (sfB r x++sfO r h).all _=_;rw[List.all_append]
 have h2:(sfO r h).all (litM M S)=true↔∀o∈r.head,o≠h→o∉m:=by
  rw[List.all_eq_true];constructor
  ·intro hq o ho hne hom;have hor:=inc_mem hr.head o ho
   have:=hq (-o) (sfO_mem.2 ⟨o,ho,hne,rfl⟩)
   unfold litM at this;rw[if_neg (by omega),Int.neg_neg,agr_dec hm hor.2]at this;simp[hom]at this
  ·intro hq y hy
   obtain⟨o,ho,hne,rfl⟩:=sfO_mem.1 hy
   have hor:=inc_mem hr.head o ho;unfold litM;rw[if_neg (by omega),Int.neg_neg,agr_dec hm hor.2];simp[hq o ho hne]
 have h3:(sfB r x).all (litM M S)=true↔(if r.sum then x∈S else bodyM r m s=true):=by
  unfold sfB
  by_cases hsum:r.sum=true
  ·rw[if_pos hsum,if_pos hsum];simp only[List.all_cons,List.all_nil,Bool.and_true];unfold litM;rw[if_pos hx,decide_eq_true_eq]
  ·rw[if_neg hsum,if_neg hsum];rw[← body_agr hm hs hr];unfold bodyM;rw[if_neg hsum]
 have hhr:=inc_mem hr.head h hh;unfold redB;rw[if_neg (by simp[sfH]),Bool.or_eq_true,Bool.not_eq_true',h1]
 have h4:(sfH r x h).head.any (fun a=>decide (a∈S))=decide (h∈s):=by
  show[h].any _=_
  simp only[List.any_cons,List.any_nil,Bool.or_false];exact agr_dec hs hhr.2
 rw[h4,decide_eq_true_eq];rw[← h2,← h3]
 cases(sfB r x).all (litM M S) <;> cases(sfO r h).all (litM M S) <;> simp
def LfOk (p:GProg)(f:GRule→Bool)(S:LI):Prop:=∀k r,p.rules[k]? = some r→(djB r && r.sum)=true→(sfA p.rules p.n k∈S↔f r=true)
theorem lift_ok {p:GProg}{f:GRule→Bool}{m:LI}(hm:∀a∈m,a≤p.n):LfOk p f (m++lfF f p.rules p.n):=fun k r hk hd=>by
 have hg:=sfA_gt p.rules p.n k;rw[List.mem_append,lfF_mem];constructor
 ·rintro(h | ⟨j,q,hj,h1,h2,h3⟩)
  ·have:=hm _ h;omega
  ·have e:=sfA_inj hk hj hd h1 h3;subst e;rw[hk]at hj;cases hj;exact h2
 ·intro h;exact .inr ⟨k,r,hk,hd,h,rfl⟩
theorem lift_gt {f:GRule→Bool}{rs:LG}{n:Int}:∀a∈lfF f rs n,n<a:=fun a ha=>by
 obtain⟨k,r,_,_,_,rfl⟩:=lfF_mem.1 ha
 exact sfA_gt _ _ _
theorem sf_dj {r:GRule}(h:djB r=true){x:Int}{z:GRule}:z∈sfRule r x↔(r.sum=true∧z=sfX r x)∨∃a∈r.head,z=sfH r x a:=by
 unfold sfRule;rw[if_pos h,List.mem_append,List.mem_map];unfold sfU;constructor
 ·rintro(h1 | ⟨a,ha,rfl⟩)
  ·split at h1
   ·rename_i hs;rw[List.mem_singleton]at h1;exact .inl ⟨hs,h1⟩
   ·cases h1
  ·exact .inr ⟨a,ha,rfl⟩
 ·rintro(⟨h1,rfl⟩ | ⟨a,ha,rfl⟩)
  ·rw[if_pos h1];exact .inl (by simp)
  ·exact .inr ⟨a,ha,rfl⟩
theorem sf_nd {r:GRule}(h:djB r=false){x:Int}{z:GRule}:z∈sfRule r x↔z=r:=by
 unfold sfRule;rw[if_neg (by simp[h]),List.mem_singleton]
theorem sat_iff {r:GRule}{m:LI}(hc:r.choice=false):satB r m=true↔(bodyB r m=true→∃a∈r.head,a∈m):=by
 unfold satB;rw[hc,Bool.false_or,Bool.or_eq_true,Bool.not_eq_true',List.any_eq_true];simp only[decide_eq_true_eq]
 cases bodyB r m <;> simp
theorem sf_sat {p:GProg}(hi:ProgIs p){m S:LI}(hm:Agr p.n m S)(hl:LfOk p (fun r=>bodyB r m) S):
  (∀z∈sfL p.rules p.n,satB z S=true)↔∀r∈p.rules,satB r m=true:=by
 have h0:=(namedB_n hi.named).1;constructor
 ·intro h r hr
  obtain⟨k,hk⟩:=List.getElem?_of_mem hr
  have hri:=hi.rules r hr;have hz:∀z∈sfRule r (sfA p.rules p.n k),satB z S=true:=fun z hz=>h z (sfL_at.2 ⟨k,r,hk,hz⟩)
  cases hd:djB r with
  |false=>
   have:=hz r ((sf_nd hd).2 rfl)
   cases hc:r.choice with
   |true=>unfold satB;rw[hc];rfl
   |false=>rw[sat_redB hc]at this ⊢;rw[red_agr hm hm hri]at this;exact this
  |true=>
   have hc:=dj_choice hd;rw[sat_iff hc];intro hb;apply Classical.byContradiction;intro hno;have hno:∀a∈r.head,a∉m:=fun a ha hm'=>hno ⟨a,ha,hm'⟩
   obtain⟨a,ha⟩:∃a,a∈r.head:=List.exists_mem_of_ne_nil _ (fun e=>by have:=dj_len hd;rw[e]at this;simp at this)
   have h1:=hz _ ((sf_dj hd).2 (.inr ⟨a,ha,rfl⟩));rw[sat_redB rfl,red_sfH hm hm hri (by have:=sfA_gt p.rules p.n k;omega) ha]at h1;refine hno a ha (h1 ?_ fun o ho _=>hno o ho);split
   ·rename_i hs
    exact(hl k r hk (by rw[hd,hs];rfl)).2 hb
   ·rw[bodyM_self];exact hb
 ·intro h z hz
  obtain⟨k,r,hk,hz⟩:=sfL_at.1 hz
  have hr:=List.mem_of_getElem? hk;have hri:=hi.rules r hr;have hsr:=h r hr
  cases hd:djB r with
  |false=>
   rw[sf_nd hd]at hz;subst hz
   cases hc:z.choice with
   |true=>unfold satB;rw[hc];rfl
   |false=>rw[sat_redB hc]at hsr ⊢;rw[red_agr hm hm hri];exact hsr
  |true=>
   have hc:=dj_choice hd;rw[sat_iff hc]at hsr
   rcases(sf_dj hd).1 hz with⟨hs,rfl⟩ | ⟨a,ha,rfl⟩
   ·rw[sat_redB rfl,red_sfX hm hm hri hs,bodyM_self]
    have:=hl k r hk (by rw[hd,hs];rfl)
    cases hb:bodyB r m with
    |false=>rfl
    |true=>rw[decide_eq_true (this.2 hb)];rfl
   ·rw[sat_redB rfl,red_sfH hm hm hri (by have:=sfA_gt p.rules p.n k;omega) ha];intro h1 h2
    have hb:bodyB r m=true:=by
     split at h1
     ·rename_i hs
      exact(hl k r hk (by rw[hd,hs];rfl)).1 h1
     ·rw[← bodyM_self];exact h1
    obtain⟨b,hb1,hb2⟩:=hsr hb
    by_cases e:b=a
    ·rw[← e];exact hb2
    ·exact absurd hb2 (h2 b hb1 e)
theorem litM_le {M s t:LI}{x:Int}(h:0<x→x∈s→x∈t)(hl:litM M s x=true):litM M t x=true:=by
 unfold litM at hl ⊢;split
 ·rename_i h0
  rw[if_pos h0,decide_eq_true_eq]at hl;exact decide_eq_true (h h0 hl)
 ·rename_i h0
  rwa [if_neg h0]at hl
theorem sumG_le {f g:Int→Bool}:∀(xs ys:LI),(∀x∈xs,f x=true→g x=true)→(∀y∈ys,0≤y)→sumG f xs ys≤sumG g xs ys
 |[],_,_,_=>by simp[sumG]
 |_::_,[],_,_=>by simp[sumG]
 |x::xs,y::ys,h,h0=>by
  have ih:=sumG_le (f:=f) (g:=g) xs ys (fun z hz=>h z (by simp[hz])) fun z hz=>h0 z (by simp[hz]);have hy:=h0 y (by simp);have hx:=h x (by simp);unfold sumG
  cases hf:f x with
  |false=>simp only[Bool.false_eq_true,if_false];split <;> omega
  |true=>rw[hx hf];simp only[if_true];omega
theorem bodyM_le {r:GRule}{n:Int}(hr:RuleIs r n){M s t:LI}(h:∀x∈r.body,0<x→x∈s→x∈t)(hb:bodyM r M s=true):bodyM r M t=true:=by
 unfold bodyM at hb ⊢;split
 ·rename_i hs
  rw[if_pos hs,decide_eq_true_eq]at hb;have hw:=wtGo_spec r.w 0 (by omega) (by omega) (hr.wt hs)
  have:=sumG_le (f:=litM M s) (g:=litM M t) r.body r.w (fun x hx=>litM_le (h x hx)) fun y hy=>by have:=hw.1 y hy;omega
  exact decide_eq_true (by omega)
 ·rename_i hs
  rw[if_neg hs,List.all_eq_true]at hb;rw[List.all_eq_true];exact fun x hx=>litM_le (h x hx) (hb x hx)
def StabP (rs:LG)(m:LI):Prop:=(∀r∈rs,satB r m=true)∧∀s:LI,(∀x∈s,x∈m)→(∀r∈rs,redB r m s=true)→∀x∈m,x∈s
structure LevP (p:GProg)(lv:Int→Int):Prop where
 low:∀r∈p.rules,∀h∈r.head,∀b∈r.body,0<b→lv b≤lv h
 part:∀r∈p.rules,djB r=true→∀h∈r.head,∀o∈r.head,lv h=lv o→h=o
theorem red_choice {r:GRule}{m s:LI}(hc:r.choice=true):redB r m s=true↔(bodyM r m s=true→∀a∈r.head,a∈m→a∈s):=by
 unfold redB;rw[if_pos hc,Bool.or_eq_true,Bool.not_eq_true',List.all_eq_true]
 cases bodyM r m s with
 |false=>simp
 |true=>simp only[Bool.true_eq_false,false_or,true_implies];exact forall_congr' fun a=>forall_congr' fun ha=>by rw[Bool.or_eq_true,Bool.not_eq_true',decide_eq_false_iff_not,decide_eq_true_eq];exact⟨fun h hm=>h.elim (fun hn=>absurd hm hn) id,fun h=>if hm:a∈m then .inr (h hm)else .inl hm⟩
theorem red_plain {r:GRule}{m s:LI}(hc:r.choice=false):redB r m s=true↔(bodyM r m s=true→∃a∈r.head,a∈s):=by
 unfold redB;rw[if_neg (by simp[hc]),Bool.or_eq_true,Bool.not_eq_true',List.any_eq_true];simp only[decide_eq_true_eq]
 cases bodyM r m s <;> simp
theorem least_of {m s:LI}(lv:Int→Int):∀(l:LI),(∃a∈l,a∉s)→∃a∈l,a∉s∧∀b∈l,b∉s→lv a≤lv b
 |[],h=>by obtain⟨a,ha,_⟩:=h;cases ha
 |x::t,h=>by
  by_cases ht:∃a∈t,a∉s
  ·obtain⟨a,ha,hs,hmin⟩:=least_of (m:=m) lv t ht
   by_cases hx:x∉s∧lv x<lv a
   ·exact⟨x,by simp,hx.1,fun b hb hbs=>(List.mem_cons.1 hb).elim (fun e=>by rw[e];omega) fun hb=>by have:=hmin b hb hbs;omega⟩
   ·exact⟨a,by simp[ha],hs,fun b hb hbs=>(List.mem_cons.1 hb).elim (fun e=>by subst e;exact Int.not_lt.1 fun hlt=>hx ⟨hbs,hlt⟩) fun hb=>hmin b hb hbs⟩
  ·obtain⟨a,ha,hs⟩:=h
   rcases List.mem_cons.1 ha with rfl | ha
   ·exact⟨a,by simp,hs,fun b hb hbs=>(List.mem_cons.1 hb).elim (fun e=>by rw[e];omega) fun hb=>absurd ⟨b,hb,hbs⟩ ht⟩
   ·exact absurd ⟨a,ha,hs⟩ ht
theorem stab_shift {p:GProg}(hi:ProgIs p){lv:Int→Int}(hlv:LevP p lv){m S:LI}(hm:Agr p.n m S)(_hmn:∀a∈m,a≤p.n)(hl:LfOk p (fun r=>bodyB r m) S)(hS:∀a∈S,a≤p.n+(sfC p.rules:Int))(h:StabP p.rules m):StabP (sfL p.rules p.n) S:=by
 have h0:=(namedB_n hi.named).1
 refine⟨(sf_sat hi hm hl).2 h.1,fun T hT hred=>?_⟩
 obtain⟨t,ht⟩:∃t,t=T.filter fun a=>decide (a≤p.n):=⟨_,rfl⟩
 have htm:∀a,a∈t↔a∈T∧a≤p.n:=fun a=>by rw[ht,List.mem_filter,decide_eq_true_eq]
 have hA:Agr p.n t T:=fun a ha=>by rw[htm];exact⟨fun h=>⟨h,ha⟩,fun h=>h.1⟩
 have hsub:∀a∈t,a∈m:=fun a ha=>by
  have:=(htm a).1 ha
  exact(hm a this.2).1 (hT a this.1)
 have key:∀a∈m,a∈t:=by
  apply Classical.byContradiction;intro hn;have hn:∃a∈m,a∉t:=Classical.byContradiction fun hq=>hn fun a ha=>Classical.byContradiction fun hx=>hq ⟨a,ha,hx⟩
  obtain⟨a0,ha0,hat,hmin⟩:=least_of (m:=m) lv m hn
  obtain⟨N,hN⟩:∃N,N=m.filter fun a=>decide (a∈t) || !decide (lv a=lv a0):=⟨_,rfl⟩
  have hNm:∀a,a∈N↔a∈m∧(a∈t∨lv a≠lv a0):=fun a=>by
   rw[hN,List.mem_filter,Bool.or_eq_true,Bool.not_eq_true',decide_eq_true_eq,decide_eq_false_iff_not]
  have hall:=h.2 N (fun x hx=>((hNm x).1 hx).1) fun r hr=>?_
  ·have:=((hNm a0).1 (hall a0 ha0)).2
   exact this.elim hat fun h=>h rfl
  ·have hri:=hi.rules r hr
   obtain⟨k,hk⟩:=List.getElem?_of_mem hr
   have hz:∀z∈sfRule r (sfA p.rules p.n k),redB z S T=true:=fun z hz=>hred z (sfL_at.2 ⟨k,r,hk,hz⟩)
   -- a body that holds in N,of a head of the least level,holds in t
   have hbt:bodyM r m N=true→∀a∈r.head,lv a=lv a0→bodyM r m t=true:=fun hb a ha hla=>bodyM_le hri (fun x hx hx0 hxN=>by
    have h1:=(hNm x).1 hxN;apply Classical.byContradiction;intro hxt;have h2:=hlv.low r hr a ha x hx hx0;have h3:=hmin x h1.1 hxt;exact h1.2.elim hxt fun hne=>hne (by omega)) hb
   have hout:∀a∈m,a∉N→a∉t∧lv a=lv a0:=fun a ha hn=>by
    rw[hNm]at hn
    exact⟨fun hq=>hn ⟨ha,.inl hq⟩,Classical.byContradiction fun hq=>hn ⟨ha,.inr hq⟩⟩
   cases hc:r.choice with
   |true=>
    rw[red_choice hc];intro hb a ha ham;apply Classical.byContradiction;intro han
    obtain⟨h1,h2⟩:=hout a ham han
    have hd:djB r=false:=(by unfold djB;rw[hc];rfl);have hz1:=hz r ((sf_nd hd).2 rfl);rw[red_agr hm hA hri,red_choice hc]at hz1;exact h1 (hz1 (hbt hb a ha h2) a ha ham)
   |false=>
    rw[red_plain hc];intro hb;apply Classical.byContradiction;intro hno;have hno:∀a∈r.head,a∉N:=fun a ha hq=>hno ⟨a,ha,hq⟩;have hbm:bodyB r m=true:=(by rw[← bodyM_self];exact bodyM_le hri (fun x _ _ hx=>((hNm x).1 hx).1) hb)
    obtain⟨a,ha,ham⟩:=(sat_iff hc).1 (h.1 r hr) hbm
    obtain⟨h1,h2⟩:=hout a ham (hno a ha)
    have hbt':=hbt hb a ha h2
    cases hd:djB r with
    |false=>
     have hz1:=hz r ((sf_nd hd).2 rfl);rw[red_agr hm hA hri,red_plain hc]at hz1
     obtain⟨b,hb1,hb2⟩:=hz1 hbt'
     exact hno b hb1 ((hNm b).2 ⟨hsub b hb2,.inl hb2⟩)
    |true=>
     have hz1:=hz _ ((sf_dj hd).2 (.inr ⟨a,ha,rfl⟩));rw[red_sfH hm hA hri (by have:=sfA_gt p.rules p.n k;omega) ha]at hz1;refine h1 (hz1 ?_ fun o ho hne hom=>?_)
     ·split
      ·rename_i hs
       have hz2:=hz _ ((sf_dj hd).2 (.inl ⟨hs,rfl⟩));rw[red_sfX hm hA hri hs,hbt']at hz2
       simpa using hz2
      ·exact hbt'
     ·have h3:=hout o hom (hno o ho);exact hne (hlv.part r hr hd o ho a ha (h3.2.trans h2.symm))
 intro a ha
 by_cases han:a≤p.n
 ·exact((htm a).1 (key a ((hm a han).1 ha))).1
 ·obtain⟨k,r,hk,hd,rfl⟩:=sfA_all (show p.n<a by omega) (hS a ha)
  have hr:=List.mem_of_getElem? hk;have hri:=hi.rules r hr;have hb:=(hl k r hk hd).1 ha;rw[Bool.and_eq_true]at hd;have hz2:=hred _ (sfL_at.2 ⟨k,r,hk,(sf_dj hd.1).2 (.inl ⟨hd.2,rfl⟩)⟩);have hbt:bodyM r m t=true:=bodyM_le hri (fun x _ _ hx=>key x hx) (by rw[bodyM_self];exact hb);rw[red_sfX hm hA hri hd.2,hbt]at hz2
  simpa using hz2
theorem shift_ok {p:GProg}(hi:ProgIs p){m S:LI}(hm:Agr p.n m S)(h:StabP (sfL p.rules p.n) S):LfOk p (fun r=>bodyB r m) S:=fun k r hk hd=>by
 have h0:=(namedB_n hi.named).1;have hri:=hi.rules r (List.mem_of_getElem? hk);have hd':=hd;rw[Bool.and_eq_true]at hd';have hg:=sfA_gt p.rules p.n k;have hx:sfX r (sfA p.rules p.n k)∈sfL p.rules p.n:=sfL_at.2 ⟨k,r,hk,(sf_dj hd'.1).2 (.inl ⟨hd'.2,rfl⟩)⟩;constructor
 ·intro hin;apply Classical.byContradiction;intro hb
  obtain⟨T,hT⟩:∃T,T=S.filter fun a=>!decide (a=sfA p.rules p.n k):=⟨_,rfl⟩
  have hTm:∀a,a∈T↔a∈S∧a≠sfA p.rules p.n k:=fun a=>by rw[hT,List.mem_filter,Bool.not_eq_true',decide_eq_false_iff_not]
  have hA:Agr p.n m T:=fun a ha=>by
   rw[hTm,← hm a ha]
   exact⟨fun h=>h.1,fun h=>⟨h,by omega⟩⟩
  have hall:=h.2 T (fun a ha=>((hTm a).1 ha).1) fun z hz=>?_
  ·exact((hTm _).1 (hall _ hin)).2 rfl
  ·obtain⟨j,q,hj,hz⟩:=sfL_at.1 hz
   have hq:=List.mem_of_getElem? hj;have hqi:=hi.rules q hq;have hg2:=sfA_gt p.rules p.n j
   cases hdq:djB q with
   |false=>
    rw[sf_nd hdq]at hz;subst hz;rw[red_agr hm hA hqi,← red_agr hm hm hqi]
    have:=h.1 z (sfL_at.2 ⟨j,z,hj,(sf_nd hdq).2 rfl⟩)
    cases hc:z.choice with
    |true=>rw[red_choice hc];exact fun _ _ _ h=>h
    |false=>rw[← sat_redB hc];exact this
   |true=>
    rcases(sf_dj hdq).1 hz with⟨hs,rfl⟩ | ⟨a,ha,rfl⟩
    ·rw[red_sfX hm hA hqi hs,bodyM_self,Bool.or_eq_true,Bool.not_eq_true',decide_eq_true_eq]
     by_cases e:sfA p.rules p.n j=sfA p.rules p.n k
     ·have e2:=sfA_inj hj hk (by rw[hdq,hs];rfl) hd e;subst e2;rw[hj]at hk;cases hk;exact .inl (by simpa using hb)
     ·have:=h.1 _ (sfL_at.2 ⟨j,q,hj,hz⟩)
      rw[sat_redB rfl,red_sfX hm hm hqi hs,bodyM_self,Bool.or_eq_true,Bool.not_eq_true',decide_eq_true_eq]at this;exact this.imp id fun hq=>(hTm _).2 ⟨hq,e⟩
    ·have:=h.1 _ (sfL_at.2 ⟨j,q,hj,hz⟩)
     rw[sat_redB rfl,red_sfH hm hm hqi (by omega) ha]at this;rw[red_sfH hm hA hqi (by omega) ha];intro h1 h2;refine this ?_ h2
     split at h1
     ·rename_i hs
      rw[if_pos hs];exact((hTm _).1 h1).1
     ·rename_i hs
      rw[if_neg hs];exact h1
 ·intro hb;have hb:bodyB r m=true:=hb
  have:=h.1 _ hx
  rw[sat_redB rfl,red_sfX hm hm hri hd'.2,bodyM_self,hb]at this
  simpa using this
theorem shift_stab {p:GProg}(hi:ProgIs p){m S:LI}(hm:Agr p.n m S)(hmn:∀a∈m,a≤p.n)(h:StabP (sfL p.rules p.n) S):StabP p.rules m:=by
 have h0:=(namedB_n hi.named).1;have hl:=shift_ok hi hm h
 refine⟨(sf_sat hi hm hl).1 h.1,fun s hs hred=>?_⟩
 have hA:Agr p.n s (s++lfF (fun r=>bodyM r m s) p.rules p.n):=agr_add lift_gt;have hok:LfOk p (fun r=>bodyM r m s) (s++lfF (fun r=>bodyM r m s) p.rules p.n):=lift_ok fun a ha=>hmn a (hs a ha);generalize hT:s++lfF (fun r=>bodyM r m s) p.rules p.n=T at hA hok
 have hsub:∀x∈T,x∈S:=fun x hx=>by
  rw[← hT,List.mem_append]at hx;rcases hx with hx | hx
  ·have:=hs x hx
   exact(hm x (hmn x this)).2 this
  ·obtain⟨k,r,hk,hd,hb,rfl⟩:=lfF_mem.1 hx
   refine(hl k r hk hd).2 ?_
   show bodyB r m=true;rw[← bodyM_self];exact bodyM_le (hi.rules r (List.mem_of_getElem? hk)) (fun x _ _ hx=>hs x hx) hb
 have hall:=h.2 T hsub fun z hz=>?_
 ·intro a ha;have han:=hmn a ha
  exact(hA a han).1 (hall a ((hm a han).2 ha))
 ·obtain⟨k,r,hk,hz⟩:=sfL_at.1 hz
  have hr:=List.mem_of_getElem? hk;have hri:=hi.rules r hr;have hrr:=hred r hr
  cases hd:djB r with
  |false=>rw[sf_nd hd]at hz;subst hz;rw[red_agr hm hA hri];exact hrr
  |true=>
   have hc:=dj_choice hd;rw[red_plain hc]at hrr
   rcases(sf_dj hd).1 hz with⟨hs',rfl⟩ | ⟨a,ha,rfl⟩
   ·rw[red_sfX hm hA hri hs']
    have:=hok k r hk (by rw[hd,hs'];rfl)
    cases hb:bodyM r m s with
    |false=>rfl
    |true=>rw[decide_eq_true (this.2 hb)];rfl
   ·rw[red_sfH hm hA hri (by have:=sfA_gt p.rules p.n k;omega) ha];intro h1 h2
    have hb:bodyM r m s=true:=by
     split at h1
     ·rename_i hs'
      exact(hok k r hk (by rw[hd,hs'];rfl)).1 h1
     ·exact h1
    obtain⟨b,hb1,hb2⟩:=hrr hb
    by_cases e:b=a
    ·rw[← e];exact hb2
    ·exact absurd (hs b hb2) (h2 b hb1 e)
def lvP (p:GProg)(a:Int):Int:=nthZ (numL p.n.toNat (compT (ofL p))) a
theorem inj_nodup {f:Int→Int}:∀{l:LI},(l.map f).Nodup→∀a∈l,∀b∈l,f a=f b→a=b
 |[],_,a,ha,_,_,_=>by cases ha
 |x::t,h,a,ha,b,hb,e=>by
  rw[List.map_cons,List.nodup_cons]at h;rcases List.mem_cons.1 ha with rfl | ha2 <;> rcases List.mem_cons.1 hb with rfl | hb2
  ·rfl
  ·exact absurd (List.mem_map.2 ⟨b,hb2,e.symm⟩) h.1
  ·exact absurd (List.mem_map.2 ⟨a,ha2,e⟩) h.1
  ·exact inj_nodup h.2 a ha2 b hb2 e
theorem nodup_inj {f:Int→Int}:∀{l:LI},l.Nodup→(∀a∈l,∀b∈l,f a=f b→a=b)→(l.map f).Nodup
 |[],_,_=>by simp
 |x::t,h,hf=>by
  rw[List.nodup_cons]at h;rw[List.map_cons,List.nodup_cons]
  refine⟨fun hm=>?_,nodup_inj h.2 fun a ha b hb=>hf a (by simp[ha]) b (by simp[hb])⟩
  obtain⟨b,hb,e⟩:=List.mem_map.1 hm
  have:=hf b (by simp[hb]) x (by simp) e
  subst this;exact h.1 hb
theorem lev_low {p:GProg}(hi:ProgIs p):∀r∈p.rules,∀h∈r.head,∀b∈r.body,0<b→lvP p b≤lvP p h:=fun r hr h hh b hb h0=>by
 have hn:=namedB_n hi.named;have hl:=of_len p;have hg:=of_ok hi hn.1 hn.2;have h1:1≤(ofL p).length:=(by omega);have hc:=comp_ok hg h1;have e:p.n.toNat=(ofL p).length-1:=(by omega);have hhr:=inc_mem (hi.rules r hr).head h hh;have hed:b∈rowZ (ofL p) h:=(of_edge hn.1 (by omega) hhr.2).2 ⟨r,hr,hh,hb,h0⟩
 obtain⟨i,c,hci,hx⟩:=hc.get (x:=h) hhr.1 (by omega)
 obtain⟨j,hj,d,hdj,hbd⟩:=hc.cl i c hci h hx b hed
 unfold lvP;rw[e,numL_at hc h1 hci hx,numL_at hc h1 hdj hbd];omega
theorem free_dj (p:GProg):freeB p=true↔∀r∈p.rules,djB r=true→(r.head.map (lvP p)).Nodup:=by
 have hl:∀r:GRule,(r.head.map fun a=>nthZ (numL p.n.toNat (compT (ofL p))) a)=r.head.map (lvP p):=fun r=>rfl;unfold freeB;rw[Bool.not_eq_true',List.any_eq_false];constructor
 ·intro h r hr hd;have h1:=h r hr;unfold hfB at h1;rw[dj_choice hd,hl]at h1;have h2:=disN_lt (r.head.map (lvP p));rw[List.length_map]at h2;apply Classical.byContradiction;intro hn;exact h1 (by simpa using h2.2 hn)
 ·intro h r hr hb;unfold hfB at hb;rw[hl]at hb;simp only[Bool.and_eq_true,Bool.not_eq_true',decide_eq_true_eq]at hb;have h2:=disN_lt (r.head.map (lvP p));rw[List.length_map]at h2;have h3:=h2.1 hb.2
  by_cases hlen:1<r.head.length
  ·exact h3 (h r hr (by unfold djB;rw[hb.1,decide_eq_true hlen];rfl))
  ·refine h3 ?_
   match hh:r.head,hlen with
   |[],_=>simp
   |[a],_=>simp
   |a::b::t,hlen=>simp at hlen
theorem free_lev {p:GProg}(hi:ProgIs p)(hf:freeB p=true):LevP p (lvP p):=
 ⟨lev_low hi,fun r hr hd h hh o ho e=>inj_nodup ((free_dj p).1 hf r hr hd) h hh o ho e⟩
theorem lev_path {p:GProg}(hi:ProgIs p){lv:Int→Int}(hl:∀r∈p.rules,∀h∈r.head,∀b∈r.body,0<b→lv b≤lv h){a b:Int}(h:Rch (ofL p) a b):1≤a→a≤p.n→lv b≤lv a:=by
 have hn:=namedB_n hi.named;have hg:=of_ok hi hn.1 hn.2;have hlen:=of_len p
 induction h with
 |refl a=>intro _ _;exact Int.le_refl _
 |step hb _ ih=>
  intro h1 h2
  obtain⟨r,hr,q1,q2,q3⟩:=(of_edge hn.1 (by omega) h2).1 hb
  have h3:=hl r hr _ q1 _ q2 q3;have h4:=litB_iff.1 (ord_lit (hi.rules r hr).body _ q2)
  have:=ih (by omega) (by omega)
  omega
theorem lev_free {p:GProg}(hi:ProgIs p){lv:Int→Int}(h:LevP p lv):freeB p=true:=by
 have hn:=namedB_n hi.named;have hlen:=of_len p;have hg:=of_ok hi hn.1 hn.2;have h1:1≤(ofL p).length:=(by omega);have hc:=comp_ok hg h1;have e:p.n.toNat=(ofL p).length-1:=(by omega);rw[free_dj];intro r hr hd;have hrr:=inc_mem (hi.rules r hr).head;refine nodup_inj ((inc_pair (hi.rules r hr).head).imp fun hab=>by omega) fun a ha b hb he=>?_;have hA:=hrr a ha;have hB:=hrr b hb;unfold lvP at he
 obtain⟨i,c,hci,hx⟩:=hc.get (x:=a) hA.1 (by omega)
 obtain⟨j,d,hdj,hy⟩:=hc.get (x:=b) hB.1 (by omega)
 rw[e,numL_at hc h1 hci hx,numL_at hc h1 hdj hy]at he;have hs:=(hc.same hci hdj hx hy).1 (by omega);have l1:=lev_path hi h.low hs.1 hA.1 hA.2;have l2:=lev_path hi h.low hs.2 hB.1 hB.2;exact h.part r hr hd a ha b hb (by omega)
theorem cyc_free {p:GProg}(hi:ProgIs p){r1 r2 r3:GRule}(h1:r1∈p.rules)(h2:r2∈p.rules)(h3:r3∈p.rules)(hd:djB r1=true){a b:Int}(ha:a∈r1.head)(hb:b∈r1.head)(hab:a≠b)(ha0:0<a)(hb0:0<b)
  (e1:a∈r2.head) (e2:b∈r2.body) (e3:b∈r3.head) (e4:a∈r3.body):freeB p=false:=by
 cases hf:freeB p with
 |false=>rfl
 |true=>have h:=free_lev hi hf;have l1:=h.low r2 h2 a e1 b e2 hb0;have l2:=h.low r3 h3 b e3 a e4 ha0;exact absurd (h.part r1 h1 hd a ha b hb (by omega)) hab
theorem lfF_pair (f:GRule→Bool):∀(rs:LG)(n:Int),(lfF f rs n).Pairwise (· < ·)
 |[],_=>List.Pairwise.nil
 |r::t,n=>by
  unfold lfF;rw[List.pairwise_append]
  refine⟨by split <;> simp,lfF_pair f t _,fun a ha b hb=>?_⟩
  split at ha
  ·rename_i hc
   rw[Bool.and_eq_true]at hc;rw[List.mem_singleton]at ha;have h1:sfN r=1:=(by unfold sfN;rw[hc.1];rfl);have h2:=lift_gt b hb;omega
  ·cases ha
theorem inc_make {n:Int}{xs:LI}(h1:∀x∈xs,1≤x∧x≤n)(h2:xs.Pairwise (· < ·)):incB n xs=true:=by
 unfold incB ordB;rw[Bool.and_eq_true,ordGo_iff,List.all_eq_true]
 refine⟨⟨fun x hx=>litB_iff.2 (by have:=h1 x hx;omega),?_,fun y e=>by cases e⟩,fun x hx=>decide_eq_true (by have:=h1 x hx;omega)⟩
 refine(List.Pairwise.and_mem.1 h2).imp ?_
 rintro a b ⟨ha,hb,hab⟩;have p1:=h1 a ha;have p2:=h1 b hb;unfold litLt absI;simp only[Bool.or_eq_true,Bool.and_eq_true,decide_eq_true_eq];omega
theorem sfP_n (p:GProg):(sfP p).n=p.n+(sfC p.rules:Int):=rfl
theorem lift_inc {p:GProg}(hi:ProgIs p){m:LI}(hm:incB p.n m=true):incB (sfP p).n (liftL p m)=true:=by
 have h0:=(namedB_n hi.named).1;have hmm:=inc_mem hm;rw[sfP_n];refine inc_make (fun x hx=>?_) ?_
 ·rcases List.mem_append.1 hx with h | h
  ·have:=hmm x h;omega
  ·obtain⟨k,r,hk,hd,_,rfl⟩:=lfF_mem.1 h
   have:=sfA_gt p.rules p.n k
   have:=sfA_le (n:=p.n) hk hd
   omega
 ·unfold liftL;rw[List.pairwise_append]
  exact⟨inc_pair hm,lfF_pair _ _ _,fun a ha b hb=>by have:=(hmm a ha).2;have:=lift_gt b hb;omega⟩
theorem sf_rules (p:GProg):(sfP p).rules=(sfL p.rules p.n).map normR:=by
 show[]++_=_
 rw[List.nil_append]
theorem lift_agr {p:GProg}(m:LI):Agr p.n m (liftL p m):=agr_add lift_gt
theorem lift_lf {p:GProg}{m:LI}(hm:incB p.n m=true):LfOk p (fun r=>bodyB r m) (liftL p m):=lift_ok fun a ha=>(inc_mem hm a ha).2

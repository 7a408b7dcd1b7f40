/- GC -/
import Derived.Test.YthdjkenhkedjjaaGreatMdp
import Derived.Test.YthdjkenhkedjjaaGreatGS
import Derived.Test.YthdjkenhkedjjaaGreatG5
import Derived.Test.YthdjkenhkedjjaaGreatGB
import Derived.Test.YthdjkenhkedjjaaGreatInv
set_option maxRecDepth 100000
set_option maxHeartbeats 8000000
namespace Go.Proofs.YthdjkenhkedjjaaGreat
open Go.RowKit
structure LevOk (l:GMin):Prop where
 lit:∀x∈l.lits,x≠0∧-4000≤x∧x≤4000
 len:l.w.length=l.lits.length
 pos:∀y∈l.w,0≤y
 tot:l.w.sum≤1048576
theorem minGoE_ok {n:Int}(hn:n≤4000):∀(ms:List GMin)(q:Option GMin),minGoE n q ms=true→∀l∈ms,LevOk l
 |[],_,_,l,hl=>by simp at hl
 |m::r,q,h,l,hl=>by
  rw[minGoE_cons]at h;simp only[Bool.and_eq_true]at h;rcases List.mem_cons.1 hl with rfl | hl
  ·have h1:=h.1.1;unfold minOk at h1;simp only[Bool.and_eq_true,decide_eq_true_eq]at h1;have h2:=h1.1.1.2;unfold wtB at h2;simp only[Bool.and_eq_true,decide_eq_true_eq]at h2;have h3:=wtGo_spec l.w 0 (by omega) (by omega) h2.1
   refine⟨fun x hx=>?_,h2.2,fun y hy=>by have:=h3.1 y hy;omega,by omega⟩
   have h4:=ordGo_mem n _ _ h1.1.1.1 x hx;have h5:=litB_bd h4;unfold litB at h4;simp at h4;omega
  ·exact minGoE_ok hn r (some m) h.2 l hl
theorem sum_take_le:∀(ys:LI)(j:Nat),(∀y∈ys,0≤y)→(ys.take j).sum≤ys.sum
 |[],j,_=>by simp
 |y::r,0,h=>by have:=sum_nonneg h;simpa using this
 |y::r,j+1,h=>by
  have:=sum_take_le r j fun z hz=>h z (by simp[hz])
  simp;omega
theorem valid_ok {p:GProg}(h:validE p=0):minGoE p.n none p.min=true∧0≤p.n∧p.n≤4000:=by
 unfold validE at h
 split at h
 ·cases h
 ·rename_i h1
  have:=namedB_n (by simpa using h1)
  split at h
  ·cases h
  ·split at h
   ·rename_i h2;exact absurd h h2
   ·split at h
    ·cases h
    ·split at h
     ·cases h
     ·rename_i h3;exact⟨by simpa using h3,this⟩
theorem valid_lev {p:GProg}(h:validE p=0):∀l∈p.min,LevOk l:=minGoE_ok (valid_ok h).2.2 _ _ (valid_ok h).1
end Go.Proofs.YthdjkenhkedjjaaGreat
namespace Go.Proofs.YthdjkenhkedjjaaGreat
open Go.RowKit
theorem sl_one' {W:World}{H:Nat}{y:Int}(h:Blk W H 3 #[.int .i64 y])(hy:I64 y):SlIs intR W (some ⟨H,0,none⟩) 1 1 [y]:=by
 refine⟨rfl,Nat.le_refl _,⟨by unfold maxLen;omega,by omega⟩,fun _=>⟨_,rfl,h.lt,fun i x hx=>?_⟩⟩
 match i,hx with
 |0,hx=>
  simp at hx;subst hx
  refine⟨[.int .i64 y],⟨rfl,hy⟩,fun j u hu=>?_⟩
  match j,hu with
  |0,hu=>simp at hu;subst hu;rw[add_none];exact h.cell 0
  |j+1,hu=>simp at hu
 |i+1,hx=>simp at hx
theorem off_before {w0:World}{A:OA}{l c:Nat}{xs:LI}(h:SlIs intR w0 A l c xs){T:LN}(hT:∀k∈T,w0.heap.size≤k):Off T A l:=fun h0 ad e hm=>by
 have h2:=h.blk_lt h0 e
 have:=hT _ hm;omega
end Go.Proofs.YthdjkenhkedjjaaGreat
namespace Go.Proofs.YthdjkenhkedjjaaGreat
theorem litLt_irr (a:Int):litLt a a=false:=by unfold litLt;simp
theorem litLt_asym {a b:Int}(h:litLt a b=true):litLt b a=false:=by
 cases h2:litLt b a with
 |false=>rfl
 |true=>have:=litLt_trans h h2;rw[litLt_irr]at this;cases this
theorem litLt_tri {a b:Int}(h:a≠b):litLt a b=true∨litLt b a=true:=by
 unfold litLt absI;simp only[Bool.or_eq_true,Bool.and_eq_true,decide_eq_true_eq];omega
theorem ord_lt (a b:Int):ordI a b<0↔litLt a b=true:=by
 have:=ordI_neg a b
 constructor
 ·intro h;have h1:decide (0≤ordI a b)=false:=decide_eq_false (by omega);rw[h1]at this;simpa using this.symm
 ·intro h;rw[h]at this
  have:=of_decide_eq_false this
  omega
def cmpX (xs:LI)(i k:Int):Int:=ordI (xs.getD i.toNat 0) (xs.getD k.toNat 0)
theorem cmpX_ok (xs:LI):CmpOk (cmpX xs):=by
 refine⟨fun i k h h2=>?_,fun i j k h1 h2 h3=>?_⟩
 ·unfold cmpX at h h2;rw[ord_lt]at h h2;rw[litLt_asym h]at h2;cases h2
 ·unfold cmpX at h1 h2 h3;rw[ord_lt]at h1 h2 h3;generalize xs.getD i.toNat 0=a at *;generalize xs.getD j.toNat 0=b at *;generalize xs.getD k.toNat 0=d at *
  by_cases e:b=d
  ·subst e;exact h1 h3
  ·rcases litLt_tri e with h4 | h4
   ·by_cases e2:a=b
    ·subst e2;exact h2 h3
    ·rcases litLt_tri e2 with h5 | h5
     ·have:=litLt_trans (litLt_trans h5 h4) h3;rw[litLt_irr]at this;cases this
     ·exact h1 h5
   ·exact h2 h4
def insL (x:Int):LI→LI
 |[]=>[x]
 |y::r=>if x=y then y::r else if litLt x y then x::y::r else y::insL x r
def litsOf (xs:LI):LI:=xs.foldr insL []
theorem insL_mem (x z:Int):∀ys:LI,z∈insL x ys↔z=x∨z∈ys
 |[]=>by simp[insL]
 |y::r=>by
  unfold insL
  by_cases h:x=y
  ·subst h;rw[if_pos rfl];simp
  ·rw[if_neg h];split
   ·simp
   ·rw[List.mem_cons,insL_mem x z r,List.mem_cons];constructor
    ·rintro(h1 | h1 | h1)
     ·exact .inr (.inl h1)
     ·exact .inl h1
     ·exact .inr (.inr h1)
    ·rintro(h1 | h1 | h1)
     ·exact .inr (.inl h1)
     ·exact .inl h1
     ·exact .inr (.inr h1)
theorem insL_sorted (x:Int):∀ys:LI,ys.Pairwise (fun a b=>litLt a b=true)→(insL x ys).Pairwise (fun a b=>litLt a b=true)
 |[],_=>by simp[insL]
 |y::r,h=>by
  unfold insL
  by_cases e:x=y
  ·rw[if_pos e];exact h
  ·rw[if_neg e];rw[List.pairwise_cons]at h;split
   ·rename_i hlt
    exact List.pairwise_cons.2 ⟨fun z hz=>by
     rcases List.mem_cons.1 hz with rfl | hz
     ·exact hlt
     ·exact litLt_trans hlt (h.1 z hz),List.pairwise_cons.2 h⟩
   ·rename_i hnl
    refine List.pairwise_cons.2 ⟨fun z hz=>?_,insL_sorted x r h.2⟩
    rcases(insL_mem x z r).1 hz with rfl | hz
    ·rcases litLt_tri e with h1 | h1
     ·exact absurd h1 (by simpa using hnl)
     ·exact h1
    ·exact h.1 z hz
theorem lits_mem (z:Int):∀xs:LI,z∈litsOf xs↔z∈xs
 |[]=>by simp[litsOf]
 |x::r=>by
  have:=lits_mem z r
  unfold litsOf at *;rw[List.foldr_cons,insL_mem,this,List.mem_cons]
theorem lits_sorted:∀xs:LI,(litsOf xs).Pairwise (fun a b=>litLt a b=true)
 |[]=>by simp[litsOf]
 |x::r=>by
  have:=lits_sorted r
  unfold litsOf at *;rw[List.foldr_cons];exact insL_sorted x _ this
theorem lit_ext:∀{xs ys:LI},xs.Pairwise (fun a b=>litLt a b=true)→ys.Pairwise (fun a b=>litLt a b=true)→(∀x,x∈xs↔x∈ys)→xs=ys
 |[],[],_,_,_=>rfl
 |[],y::t,_,_,h=>by have:=(h y).2 (by simp);simp at this
 |x::r,[],_,_,h=>by have:=(h x).1 (by simp);simp at this
 |x::r,y::t,h1,h2,h=>by
  rw[List.pairwise_cons]at h1 h2
  have hxy:x=y:=by
   by_cases e:x=y
   ·exact e
   ·exfalso;rcases List.mem_cons.1 ((h x).1 (by simp))with h3 | h3
    ·exact e h3
    ·rcases List.mem_cons.1 ((h y).2 (by simp))with h4 | h4
     ·exact e h4.symm
     ·have:=litLt_trans (h2.1 x h3) (h1.1 y h4);rw[litLt_irr]at this;cases this
  subst hxy;rw[lit_ext h1.2 h2.2 fun z=>?_];have hz:=h z;rw[List.mem_cons,List.mem_cons]at hz;constructor
  ·intro h3;rcases hz.1 (.inr h3)with rfl | h4
   ·have:=h1.1 z h3;rw[litLt_irr]at this;cases this
   ·exact h4
  ·intro h3;rcases hz.2 (.inr h3)with rfl | h4
   ·have:=h2.1 z h3;rw[litLt_irr]at this;cases this
   ·exact h4
def totP (zs:List (Int×Int))(x:Int):Int:=(zs.map fun p=>if p.1=x then p.2 else 0).sum
theorem totP_app (zs:List (Int×Int))(p:Int×Int)(x:Int):totP (zs++[p]) x=totP zs x+if p.1=x then p.2 else 0:=by
 unfold totP;rw[List.map_append,List.sum_append];simp
theorem totP_no {zs:List (Int×Int)}{x:Int}(h:x∉zs.map Prod.fst):totP zs x=0:=by
 unfold totP
 induction zs with
 |nil=>rfl
 |cons p r ih=>rw[List.map_cons,List.mem_cons,not_or]at h;rw[List.map_cons,List.sum_cons,if_neg (fun e=>h.1 e.symm),ih h.2];rfl
theorem perm_sumI {l m:LI}(h:l.Perm m):l.sum=m.sum:=by
 induction h with
 |nil=>rfl
 |cons x _ ih=>rw[List.sum_cons,List.sum_cons,ih]
 |swap x y l=>simp only[List.sum_cons];omega
 |trans _ _ h1 h2=>exact h1.trans h2
theorem totP_perm {zs ws:List (Int×Int)}(h:zs.Perm ws)(x:Int):totP zs x=totP ws x:=by
 unfold totP;exact perm_sumI (h.map _)
theorem totP_bd {zs:List (Int×Int)}(x:Int)(h:∀p∈zs,0≤p.2):0≤totP zs x∧totP zs x≤(zs.map Prod.snd).sum:=by
 induction zs with
 |nil=>simp[totP]
 |cons p r ih=>
  have h1:=ih fun q hq=>h q (by simp[hq]);have h2:=h p (by simp);unfold totP at *;rw[List.map_cons,List.sum_cons,List.map_cons,List.sum_cons]
  split <;> omega
structure Mrg (zs:List (Int×Int))(os ss:LI):Prop where
 srt:os.Pairwise (fun a b=>litLt a b=true)
 mem:∀x,x∈os↔x∈zs.map Prod.fst
 sums:ss=os.map (totP zs)
theorem Mrg.nil:Mrg [] [] []:=⟨List.Pairwise.nil,by simp,rfl⟩
theorem Mrg.new {zs:List (Int×Int)}{os ss:LI}{x y:Int}(h:Mrg zs os ss)(hge:∀p∈zs,litLt x p.1=false)(hl:∀o,os.getLast? = some o→o≠x):Mrg (zs++[(x,y)]) (os++[x]) (ss++[y]):=by
 have hxo:∀o∈os,litLt o x=true:=fun o ho=>by
  have h1:litLt x o=false:=by
   obtain⟨p,hp,e⟩:=List.mem_map.1 ((h.mem o).1 ho)
   rw[← e];exact hge p hp
  have hne:o≠x:=fun e=>by
   subst e
   cases hla:os.getLast? with
   |none=>rw[List.getLast?_eq_none_iff]at hla;rw[hla]at ho;cases ho
   |some q=>
    have hqm:=List.mem_of_getLast? hla;have hqo:=hl q hla
    -- o stands before the last one
    have:litLt o q=true:=by
     obtain⟨pre,hpre⟩:=List.getLast?_eq_some_iff.1 hla
     rw[hpre]at ho;rcases List.mem_append.1 ho with h2 | h2
     ·have:=h.srt
      rw[hpre,List.pairwise_append]at this;exact this.2.2 o h2 q (by simp)
     ·simp at h2;exact absurd h2.symm hqo
    obtain⟨p,hp,e⟩:=List.mem_map.1 ((h.mem q).1 hqm)
    have:=hge p hp
    rw[e]at this
    simp_all
  rcases litLt_tri hne with h2 | h2
  ·exact h2
  ·rw[h1]at h2;cases h2
 have hxn:x∉zs.map Prod.fst:=fun hm=>by
  have:=hxo x ((h.mem x).2 hm)
  rw[litLt_irr]at this;cases this
 refine⟨?_,fun z=>?_,?_⟩
 ·rw[List.pairwise_append]
  exact⟨h.srt,by simp,fun a ha b hb=>by simp at hb;subst hb;exact hxo a ha⟩
 ·rw[List.mem_append,List.map_append,List.mem_append,h.mem z];simp
 ·rw[List.map_append,h.sums]
  congr 1
  ·refine List.map_congr_left fun o ho=>?_;rw[totP_app,if_neg (fun e=>by have:=hxo o ho;rw[← e,litLt_irr]at this;cases this)];omega
  ·simp[totP_app,totP_no hxn]
theorem Mrg.more {zs:List (Int×Int)}{os ss:LI}{x y s:Int}(h:Mrg zs os ss){n:Nat}(hn:os.length=n+1)(ho:os[n]? = some x)(hs:ss[n]? = some s):Mrg (zs++[(x,y)]) os (ss.set n (s+y)):=by
 refine⟨h.srt,fun z=>?_,?_⟩
 ·rw[List.map_append,List.mem_append,h.mem z];constructor
  ·exact .inl
  ·rintro(h1 | h1)
   ·exact h1
   ·simp at h1;subst h1;exact(h.mem z).1 (List.mem_of_getElem? ho)
 ·apply List.ext_getElem?;intro i;rw[h.sums,List.getElem?_map]
  by_cases e:i=n
  ·subst e;rw[h.sums,List.getElem?_map,ho]at hs;simp at hs;rw[List.getElem?_set_self (by rw[List.length_map];omega),ho];simp[totP_app,hs]
  ·rw[List.getElem?_set_ne (fun e2=>e e2.symm),List.getElem?_map]
   cases hi:os[i]? with
   |none=>rfl
   |some z=>
    simp only[Option.map_some,Option.some.injEq];rw[totP_app,if_neg (fun e2=>?_)]
    ·omega
    ·-- z=x would stand twice
     subst e2
     obtain⟨h1,h2⟩:=List.getElem?_eq_some_iff.1 hi
     obtain⟨h3,h4⟩:=List.getElem?_eq_some_iff.1 ho
     have hlt:i<n:=(by omega)
     have:=List.pairwise_iff_getElem.1 h.srt i n h1 h3 hlt
     rw[h2,h4,litLt_irr]at this;cases this
theorem Mrg.fin {zs ws:List (Int×Int)}{os ss:LI}(h:Mrg zs os ss)(hp:zs.Perm ws):os=litsOf (ws.map Prod.fst)∧ss=(litsOf (ws.map Prod.fst)).map (totP ws):=by
 have e:os=litsOf (ws.map Prod.fst):=lit_ext h.srt (lits_sorted _) fun x=>by rw[h.mem x,lits_mem];exact(hp.map _).mem_iff
 refine⟨e,?_⟩
 rw[h.sums,e];exact List.map_congr_left fun x _=>totP_perm hp x
open Go.RowKit Go.Shelf
theorem sort1_any (B:Nat)(lA:OA)(ll lc:Nat)(xs:LI)(i k:Nat)(w:World)(hbox:w.cell? ⟨B,0,none⟩=some (.slice lA ll lc))(h:SlIs intR w lA ll lc xs)(h63:∀x∈xs,-9223372036854775807≤x)(hi:i<ll)(hk:k<ll):
  Calls Tryz.prog 138 #[.int .i64 (i:Int),.int .i64 (k:Int),.pointer (some ⟨B,0,none⟩)] w fun e w'=>e=.returned (.int .i64 (cmpX xs (i:Int) (k:Int)))∧Below w.heap.size w w':=by
 obtain⟨x,hx,-⟩:=h.drop hi
 obtain⟨y,hy,-⟩:=h.drop hk
 obtain⟨xb,xo,rfl,_,cx,xi⟩:=h.int hx
 obtain⟨yb,yo,e,_,cy,yi⟩:=h.int hy
 injection e with e;injection e with e e2;subst e e2;have hlc:=h.cap;have hlm:=h.max;have i0:(0:Int)≤(i:Int):=(by omega);have i1:(i:Int)<(ll:Int):=(by omega);have k0:(0:Int)≤(k:Int):=(by omega);have k1:(k:Int)<(ll:Int):=(by omega);have cO:=fun(u:Later w)=>order_any x y u.w (h63 x (List.mem_of_getElem? hx)) xi.2 (h63 y (List.mem_of_getElem? hy)) yi.2;have hfin:cmpX xs (i:Int) (k:Int)=ordI x y:=by unfold cmpX;simp[hx,hy]
 obtain⟨H,H63,HX,HY,CO,HFIN,XI,YI⟩:=Zq8 h h63 hx hy cO hfin xi yi;clear h h63 hx hy cO hfin xi yi
 rw[HFIN.out];go_enter Tryz.func138,Tryz.ntmps138;go_wp2_with fail;refine wp_region_later [(⟨B,0,none⟩,.slice (some ⟨xb,xo,none⟩) ll lc),(⟨xb,xo+i,none⟩,.int .i64 x),(⟨xb,xo+k,none⟩,.int .i64 y)] (by kernel_rfl) (by kernel_rfl) (by simp[go_sem, *]) ?_;intro hk;simp only[List.forall_mem_cons]at hk;obtain⟨k1_0,k1_1,k1_2,kz⟩:=hk;clear kz
 repeat go_big_quiet_step ((first | (go_at_call 88;exact Calls.later (CO.out _))))
 refine wpQuiet_nil ?_;rintro w2 ⟨u1,rfl⟩;have HU1:=Zq1 u1.h;clear k1_0 k1_1 k1_2;generalize u1.w=wu at *;go_wp2_with fail;go_ret
 exact⟨rfl,HU1.out⟩
def idF (k:Nat):Nat→Int:=fun i=>if i<k then(i:Int)else 0
theorem idF_set (k:Nat):(fun j=>if j=k then(k:Int)else idF k j)=idF (k+1):=by
 funext j;unfold idF
 by_cases h:j=k
 ·subst h;rw[if_pos rfl,if_pos (by omega)]
 ·rw[if_neg h]
  by_cases h2:j<k
  ·rw[if_pos h2,if_pos (by omega)]
  ·rw[if_neg h2,if_neg (by omega)]
theorem OwnI.form {w:World}{base:Nat}{v:Value}{l:Nat}{xs:LI}(h:OwnI w base v l xs)(h0:0<l):∃g cap,v=.slice (some ⟨g,0,none⟩) l cap∧base≤g∧g<w.heap.size∧(∀i x,xs[i]? = some x→w.cell? ⟨g,i,none⟩=some (.int .i64 x))∧∀i,w.frozen? ⟨g,i,none⟩=false:=by
 obtain⟨g,cap,rfl,hb,hl⟩:=World.ownsRow.form h.2 h0
 refine⟨g,cap,rfl,hb,hl,fun i x hx=>?_,fun i=>?_⟩
 ·have:=h.2.cells (g:=g) rfl i (.int .i64 x) (by rw[List.getElem?_map,hx];rfl)
  rwa [add_none,Nat.zero_add]at this
 ·rcases h.2.2 with⟨hv,h1⟩ | ⟨g',cap',cur,hv,_,hh,_⟩
  ·omega
  ·injection hv with hv1;injection hv1 with hv1;injection hv1 with hv1;subst hv1;simp[World.frozen?,hh]
theorem OwnI.put {w:World}{base:Nat}{g l cap:Nat}{xs:LI}(h:OwnI w base (.slice (some ⟨g,0,none⟩) l cap) l xs)(i:Nat)(y:Int):OwnI (w.setCell ⟨g,i,none⟩ (.int .i64 y)) base (.slice (some ⟨g,0,none⟩) l cap) l (xs.set i y):=by
 have h1:=(h.2.stored i (.int .i64 y)).1
 refine⟨by rw[List.length_set];exact h.1,?_⟩
 rw[List.map_set];exact h1
open Go.RowKit
structure App2J (wa:World)(ov sv lits wsl px py:Value)(l:Nat)(os ss:LI)(x y:Int)(j:Nat)(W:World)(b0 b1 b2 b3 b4 b5 b6 b7 b8 b9 b10 b11 b12 b13 b14 b15:Bool)(u65 u66 u67 u68 u69 u70 u71 u72 u73 u74 u75 u76 u77 u78 u8 u9:Value):Prop where
 bel:Below wa.heap.size wa W
 f0:b0=true→u65=ov
 f1:b1=true→u66=lits
 f2:b2=true→u67=.int .i64 (j:Int)
 f3:b3=true→u68=px
 f4:b4=true→u69=.int .i64 x
 f7:b7=true→u72=sv
 f8:b8=true→u73=wsl
 f9:b9=true→u74=.int .i64 (j:Int)
 f10:b10=true→u75=py
 f11:b11=true→u76=.int .i64 y
 f14:b14=true→u8=u71
 g14:b14=false→u8=ov
 f15:b15=true→u9=u78
 g15:b15=false→u9=sv
 d6:b6=true→b0=true∧b5=true
 d13:b13=true→b7=true∧b12=true
 d14:b14=true→b6=true
 d15:b15=true→b13=true
 row:∃vo lo oo vs ls so,OwnI W wa.heap.size vo lo oo∧OwnI W wa.heap.size vs ls so∧(∀q,vo.ownBlock=some q→vs.ownBlock≠some q)∧(b6=false→vo=ov∧lo=l∧oo=os)∧(b6=true→vo=u71∧lo=l+1∧oo=os++[x]) ∧
  (b13=false→vs=sv∧ls=l∧so=ss)∧(b13=true→vs=u78∧ls=l+1∧so=ss++[y]) ∧
  (b5=true→b6=false→∃g,u70=.slice (some ⟨g,0,none⟩) 1 1∧Blk W g 3 #[.int .i64 x]∧vo.ownBlock≠some g∧vs.ownBlock≠some g) ∧
  (b12=true→b13=false→∃g,u77=.slice (some ⟨g,0,none⟩) 1 1∧Blk W g 3 #[.int .i64 y]∧vo.ownBlock≠some g∧vs.ownBlock≠some g)
section
variable {wa : World} {ov sv lits wsl px py : Value} {l : Nat} {os ss : LI} {x y : Int} {j : Nat} {W : World} {b0 b1 b2 b3 b4 b5 b6 b7 b8 b9 b10 b11 b12 b13 b14 b15 : Bool} {u65 u66 u67 u68 u69 u70 u71 u72 u73 u74 u75 u76 u77 u78 u8 u9 : Value}
theorem App2J.start {W:World}(hb:Below wa.heap.size wa W)(ho:OwnI W wa.heap.size ov l os)(hs:OwnI W wa.heap.size sv l ss)(hne:∀q,ov.ownBlock=some q→sv.ownBlock≠some q):App2J wa ov sv lits wsl px py l os ss x y j W false false false false false false false false false false false false false false false false u65 u66 u67 u68 u69 u70 u71 u72 u73 u74 u75 u76 u77 u78 ov sv:=by
 refine⟨hb,?_,?_,?_,?_,?_,?_,?_,?_,?_,?_,?_,?_,?_,?_,?_,?_,?_,?_,⟨ov,l,os,sv,l,ss,ho,hs,hne,?_,?_,?_,?_,?_,?_⟩⟩ <;> simp
theorem OwnI.nlt {W:World}{base:Nat}{v:Value}{l:Nat}{xs:LI}(h:OwnI W base v l xs):v.ownBlock≠some W.heap.size:=fun e=>by
 have:=(h.2.lt _ e).2;omega
theorem App2J.op5 (h:App2J wa ov sv lits wsl px py l os ss x y j W b0 b1 b2 b3 b4 false b6 b7 b8 b9 b10 b11 b12 b13 b14 b15 u65 u66 u67 u68 u69 u70 u71 u72 u73 u74 u75 u76 u77 u78 u8 u9):App2J wa ov sv lits wsl px py l os ss x y j (W.alloc (.cells #[.int .i64 x] 3)) b0 b1 b2 b3 b4 true b6 b7 b8 b9 b10 b11 b12 b13 b14 b15 u65 u66 u67 u68 u69 (.slice (some ⟨W.heap.size,0,none⟩) 1 1) u71 u72 u73 u74 u75 u76 u77 u78 u8 u9:=by
 have eb:b6=false:=by
  cases hb:b6 with
  |false=>rfl
  |true=>exact absurd (h.d6 hb).2 (by simp)
 obtain⟨vo,lo,oo,vs,ls,so,ho,hs,hne,h6,h6t,h13,h13t,h5,h12⟩:=h.row
 refine { h with bel:=h.bel.alloc h.bel.size _,d6:=fun e=>absurd e (by rw[eb];simp),row:=⟨vo,lo,oo,vs,ls,so,ho.bel (bel_alloc _ _),hs.bel (bel_alloc _ _),hne,h6,h6t,h13,h13t,?_,?_⟩ }
 ·exact fun _ _=>⟨_,rfl,Blk.new _ _ _,ho.nlt,hs.nlt⟩
 ·intro e1 e2
  obtain⟨g,e,hg,n1,n2⟩:=h12 e1 e2
  exact⟨g,e,hg.alloc _,n1,n2⟩
theorem App2J.op6 {ops:Array Oper}{o:Oper}{a:Act}{K:Act→World→Prop}{Q:Exit→Act→World→Prop}{E:Prop}(h:App2J wa ov sv lits wsl px py l os ss x y j W true b1 b2 b3 b4 true false b7 b8 b9 b10 b11 b12 b13 b14 b15 u65 u66 u67 u68 u69 u70 u71 u72 u73 u74 u75 u76 u77 u78 u8 u9)(hgd:o.guard=none)
  (ho:o.op=.call { callee:=.builtin .append,args:=#[.tmp 65,.tmp 70],argTypes:=#[23,23] }) (he1:a.eval (.tmp 65)=ov) (he2:a.eval (.tmp 70)=u70) (hl:l≤1000000) (hI:I64 x)
  (hK:∀v w',App2J wa ov sv lits wsl px py l os ss x y j w' true b1 b2 b3 b4 true true b7 b8 b9 b10 b11 b12 b13 b14 b15 u65 u66 u67 u68 u69 u70 v u72 u73 u74 u75 u76 u77 u78 u8 u9→K (a.put o.dst v) w'):if Region.wanted o (yielded ops a.tmps)=true then Oper.wp Tryz.prog o a W K Q else E:=by
 have eb:b14=false:=by
  cases hb:b14 with
  |false=>rfl
  |true=>exact absurd (h.d14 hb) (by simp)
 obtain⟨vo,lo,oo,vs,ls,so,hwo,hws,hne,h6,h6t,h13,h13t,h5,h12⟩:=h.row
 obtain⟨rfl,rfl,rfl⟩:=h6 rfl
 obtain⟨g,rfl,hg,n1,n2⟩:=h5 rfl rfl
 refine step_appS hgd (.tmp 65) (.tmp 70) ho he1 he2 hwo (sl_one' hg ?_) (by omega) h.bel.size (fun v' w' q1 q2 q3=>hK v' w' ?_)
 ·exact hI
 have hw2:=hws.kept q2 (by
  cases hq:vs.ownBlock with
  |none=>exact .inl rfl
  |some q=>exact .inr fun e=>hne q e.symm hq)
 have hne2:∀q,v'.ownBlock=some q→vs.ownBlock≠some q:=fun q e1 e2=>by
  rcases q3 q e1 with h1 | h1
  ·exact hne q h1 e2
  ·have:=(hws.2.lt q e2).2;omega
 refine { h with bel:=bel_grown h.bel q2 h.bel.size (fun q hq=>(hwo.2.lt q hq).1),f14:=fun e=>absurd e (by rw[eb];simp),d6:=fun _=>⟨rfl,rfl⟩,d14:=fun _=>rfl,row:=⟨v',lo+1,oo++[x],vs,ls,so,q1,hw2,hne2,by simp,fun _=>⟨rfl,rfl,rfl⟩,h13,h13t,by simp,fun e1 e2=>?_⟩ }
 obtain⟨g2,e,hg2,m1,m2⟩:=h12 e1 e2
 refine⟨g2,e,hg2.grown q2 (fun e=>m1 e.symm),fun e3=>?_,m2⟩
 rcases q3 g2 e3 with h1 | h1
 ·exact m1 h1
 ·have:=hg2.lt;omega
theorem App2J.op12 (h:App2J wa ov sv lits wsl px py l os ss x y j W b0 b1 b2 b3 b4 b5 b6 b7 b8 b9 b10 b11 false b13 b14 b15 u65 u66 u67 u68 u69 u70 u71 u72 u73 u74 u75 u76 u77 u78 u8 u9):App2J wa ov sv lits wsl px py l os ss x y j (W.alloc (.cells #[.int .i64 y] 3)) b0 b1 b2 b3 b4 b5 b6 b7 b8 b9 b10 b11 true b13 b14 b15 u65 u66 u67 u68 u69 u70 u71 u72 u73 u74 u75 u76 (.slice (some ⟨W.heap.size,0,none⟩) 1 1) u78 u8 u9:=by
 have eb:b13=false:=by
  cases hb:b13 with
  |false=>rfl
  |true=>exact absurd (h.d13 hb).2 (by simp)
 obtain⟨vo,lo,oo,vs,ls,so,ho,hs,hne,h6,h6t,h13,h13t,h5,h12⟩:=h.row
 refine { h with bel:=h.bel.alloc h.bel.size _,d13:=fun e=>absurd e (by rw[eb];simp),row:=⟨vo,lo,oo,vs,ls,so,ho.bel (bel_alloc _ _),hs.bel (bel_alloc _ _),hne,h6,h6t,h13,h13t,?_,?_⟩ }
 ·intro e1 e2
  obtain⟨g,e,hg,n1,n2⟩:=h5 e1 e2
  exact⟨g,e,hg.alloc _,n1,n2⟩
 ·exact fun _ _=>⟨_,rfl,Blk.new _ _ _,ho.nlt,hs.nlt⟩
theorem App2J.op13 {ops:Array Oper}{o:Oper}{a:Act}{K:Act→World→Prop}{Q:Exit→Act→World→Prop}{E:Prop}(h:App2J wa ov sv lits wsl px py l os ss x y j W b0 b1 b2 b3 b4 b5 b6 true b8 b9 b10 b11 true false b14 b15 u65 u66 u67 u68 u69 u70 u71 u72 u73 u74 u75 u76 u77 u78 u8 u9)(hgd:o.guard=none)
  (ho:o.op=.call { callee:=.builtin .append,args:=#[.tmp 72,.tmp 77],argTypes:=#[23,23] }) (he1:a.eval (.tmp 72)=sv) (he2:a.eval (.tmp 77)=u77) (hl:l≤1000000) (hI:I64 y)
  (hK:∀v w',App2J wa ov sv lits wsl px py l os ss x y j w' b0 b1 b2 b3 b4 b5 b6 true b8 b9 b10 b11 true true b14 b15 u65 u66 u67 u68 u69 u70 u71 u72 u73 u74 u75 u76 u77 v u8 u9→K (a.put o.dst v) w'):if Region.wanted o (yielded ops a.tmps)=true then Oper.wp Tryz.prog o a W K Q else E:=by
 have eb:b15=false:=by
  cases hb:b15 with
  |false=>rfl
  |true=>exact absurd (h.d15 hb) (by simp)
 obtain⟨vo,lo,oo,vs,ls,so,hwo,hws,hne,h6,h6t,h13,h13t,h5,h12⟩:=h.row
 obtain⟨rfl,rfl,rfl⟩:=h13 rfl
 obtain⟨g,rfl,hg,n1,n2⟩:=h12 rfl rfl
 refine step_appS hgd (.tmp 72) (.tmp 77) ho he1 he2 hws (sl_one' hg ?_) (by omega) h.bel.size (fun v' w' q1 q2 q3=>hK v' w' ?_)
 ·exact hI
 have hw2:=hwo.kept q2 (by
  cases hq:vo.ownBlock with
  |none=>exact .inl rfl
  |some q=>exact .inr fun e=>hne q hq e.symm)
 have hne2:∀q,vo.ownBlock=some q→v'.ownBlock≠some q:=fun q e1 e2=>by
  rcases q3 q e2 with h1 | h1
  ·exact hne q e1 h1
  ·have:=(hwo.2.lt q e1).2;omega
 refine { h with bel:=bel_grown h.bel q2 h.bel.size (fun q hq=>(hws.2.lt q hq).1),f15:=fun e=>absurd e (by rw[eb];simp),d13:=fun _=>⟨rfl,rfl⟩,d15:=fun _=>rfl,row:=⟨vo,lo,oo,v',ls+1,so++[y],hw2,q1,hne2,h6,h6t,by simp,fun _=>⟨rfl,rfl,rfl⟩,fun e1 e2=>?_,by simp⟩ }
 obtain⟨g2,e,hg2,m1,m2⟩:=h5 e1 e2
 refine⟨g2,e,hg2.grown q2 (fun e=>m2 e.symm),m1,fun e3=>?_⟩
 rcases q3 g2 e3 with h1 | h1
 ·exact m2 h1
 ·have:=hg2.lt;omega
theorem App2J.n8 (h:App2J wa ov sv lits wsl px py l os ss x y j W false b1 b2 b3 b4 b5 b6 b7 b8 b9 b10 b11 b12 b13 b14 b15 u65 u66 u67 u68 u69 u70 u71 u72 u73 u74 u75 u76 u77 u78 u8 u9):u8=ov:=h.g14 (by
 cases hb:b14 with
 |false=>rfl
 |true=>exact absurd (h.d6 (h.d14 hb)).1 (by simp))
theorem App2J.n9 (h:App2J wa ov sv lits wsl px py l os ss x y j W b0 b1 b2 b3 b4 b5 b6 false b8 b9 b10 b11 b12 b13 b14 b15 u65 u66 u67 u68 u69 u70 u71 u72 u73 u74 u75 u76 u77 u78 u8 u9):u9=sv:=h.g15 (by
 cases hb:b15 with
 |false=>rfl
 |true=>exact absurd (h.d13 (h.d15 hb)).1 (by simp))
end
open Go.RowKit Go.Shelf
def zipF (xs ws:LI)(f:Nat→Int)(n:Nat):List (Int×Int):=(List.range n).map fun i=>(xs.getD (f i).toNat 0,ws.getD (f i).toNat 0)
theorem zipF_perm {xs ws:LI}{f:Nat→Int}{n:Nat}(hx:xs.length=n)(hw:ws.length=n)(h:PermIn 0 n (idF n) f):(zipF xs ws f n).Perm (xs.zip ws):=by
 have h1:=(h.perm n (Nat.le_refl _)).map (fun z:Int=>(xs.getD z.toNat 0,ws.getD z.toNat 0));rw[List.map_map,List.map_map]at h1
 have e2:(List.range n).map ((fun z:Int=>(xs.getD z.toNat 0,ws.getD z.toNat 0)) ∘ idF n)=xs.zip ws:=by
  apply List.ext_getElem
  ·simp;omega
  ·intro i h1 h2;simp only[List.getElem_map,List.getElem_range,Function.comp,List.getElem_zip];simp at h1;unfold idF;rw[if_pos h1];simp[List.getD_eq_getElem?_getD,show i<xs.length by omega,show i<ws.length by omega]
 rw[e2]at h1;exact h1
theorem zipF_take {xs ws:LI}{f:Nat→Int}{n k:Nat}(hk:k<n):(zipF xs ws f n).take (k+1)=(zipF xs ws f n).take k++[(xs.getD (f k).toNat 0,ws.getD (f k).toNat 0)]:=by
 refine take_snoc' ?_;unfold zipF;rw[List.getElem?_map,List.getElem?_range hk];rfl
theorem zipF_ge {xs ws:LI}{f:Nat→Int}{n k:Nat}(hk:k<n)(hs:SortedIn (cmpX xs) f 0 n):∀p∈(zipF xs ws f n).take k,litLt (xs.getD (f k).toNat 0) p.1=false:=fun p hp=>by
 obtain⟨i,hi⟩:=List.getElem?_of_mem hp
 rw[List.getElem?_take]at hi
 split at hi
 ·rename_i hik
  unfold zipF at hi;rw[List.getElem?_map,List.getElem?_range (by omega)]at hi;simp at hi;subst hi;have h1:=hs i k (Nat.zero_le _) hik hk;unfold cmpX at h1;rw[ord_lt]at h1
  simpa[List.getD_eq_getElem?_getD]using h1
 ·cases hi
theorem zipF_sum {xs ws:LI}{f:Nat→Int}{n:Nat}(hx:xs.length=n)(hw:ws.length=n)(h:PermIn 0 n (idF n) f):((zipF xs ws f n).map Prod.snd).sum=ws.sum:=by
 rw[perm_sumI ((zipF_perm hx hw h).map _),List.map_snd_zip (by omega)]
theorem zipF_pos {xs ws:LI}{f:Nat→Int}{n:Nat}(hx:xs.length=n)(hw:ws.length=n)(h:PermIn 0 n (idF n) f)(hp:∀y∈ws,1≤y):∀p∈zipF xs ws f n,1≤p.2:=fun p h1=>by
 have:=(zipF_perm hx hw h).mem_iff.1 h1
 exact hp _ (List.of_mem_zip (a:=p.1) (b:=p.2) this).2
theorem Mrg.bd {zs:List (Int×Int)}{os ss:LI}(h:Mrg zs os ss)(hp:∀p∈zs,0≤p.2):∀s∈ss,0≤s∧s≤(zs.map Prod.snd).sum:=fun s hs=>by
 rw[h.sums]at hs
 obtain⟨x,_,rfl⟩:=List.mem_map.1 hs
 exact totP_bd x hp
theorem totP_ge:∀{zs:List (Int×Int)}{p:Int×Int},p∈zs→(∀q∈zs,1≤q.2)→1≤totP zs p.1
 |q::r,p,hp,h=>by
  have e:totP (q::r) p.1=(if q.1=p.1 then q.2 else 0)+totP r p.1:=by unfold totP;rw[List.map_cons,List.sum_cons]
  have h1:=(totP_bd p.1 (fun z hz=>by have:=h z (List.mem_cons_of_mem q hz);omega:∀z∈r,0≤z.2)).1;have h2:=h q (by simp);rw[e];rcases List.mem_cons.1 hp with rfl | hp
  ·rw[if_pos rfl];omega
  ·have:=totP_ge hp (fun z hz=>h z (List.mem_cons_of_mem q hz))
   split <;> omega
theorem Mrg.pos {zs:List (Int×Int)}{os ss:LI}(h:Mrg zs os ss)(hp:∀p∈zs,1≤p.2):∀s∈ss,0<s:=fun s hs=>by
 rw[h.sums]at hs
 obtain⟨x,hx,rfl⟩:=List.mem_map.1 hs
 obtain⟨p,hpm,rfl⟩:=List.mem_map.1 ((h.mem x).1 hx)
 have:=totP_ge hpm hp;omega
theorem sorted_any (lA:OA)(ll lc:Nat)(vA:OA)(vl vc:Nat)(xs ws:LI)(w:World)(h:SlIs intR w lA ll lc xs)(hw:SlIs intR w vA vl vc ws)(hl:vl=ll)(hn:ll≤100000)(h63:∀x∈xs,-9223372036854775807≤x)(hpos:∀y∈ws,1≤y)(hsum:ws.sum≤1048576):
  Calls Tryz.prog 114 #[.slice lA ll lc,.slice vA vl vc] w fun e w'=>∃A l c B k q,e=.returned (.tuple #[.slice A l c,.slice B k q])∧SlIs intR w' A l c (litsOf xs)∧SlIs intR w' B k q ((litsOf xs).map (totP (xs.zip ws)))∧Frs w.heap.size A l∧Frs w.heap.size B k∧Below w.heap.size w w':=by
 have hlc:=h.cap;have hlm:=h.max;have hvc:=hw.cap;have hvm:=hw.max;subst hl;have hmk:=make_int vl (by omega);have hxl:=h.len;have hwl:=hw.len
 have hW:Blk ((w.alloc (.cells #[.slice lA vl lc] 23)).alloc (.cells (fnCells vl (fun _=>0)) 3)) w.heap.size 23 #[.slice lA vl lc]∧Blk ((w.alloc (.cells #[.slice lA vl lc] 23)).alloc (.cells (fnCells vl (fun _=>0)) 3)) (w.heap.size+1) 3 (fnCells vl (idF 0))∧Below w.heap.size w ((w.alloc (.cells #[.slice lA vl lc] 23)).alloc (.cells (fnCells vl (fun _=>0)) 3))∧(((w.alloc (.cells #[.slice lA vl lc] 23)).alloc (.cells (fnCells vl (fun _=>0)) 3))).heap.size=w.heap.size+1+1:=
  ⟨(blk_new rfl _ _).alloc _,blk_new (by simp) _ _,bel_trans (bel_alloc _ _) (bel_alloc _ _),by simp⟩
 obtain⟨H,HW,H63,HPOS,HSUM,HXL,HWL⟩:=Zq7 h hw h63 hpos hsum hxl hwl;clear h hw h63 hpos hsum hxl hwl
 go_enter Tryz.func114,Tryz.ntmps114;go_wp2_with fail;clear hmk;generalize ((w.alloc (.cells #[.slice lA vl lc] 23)).alloc (.cells (fnCells vl (fun _=>0)) 3))=W0 at *
 obtain⟨bB,bG,bW,hsz⟩:=hW
 obtain⟨BB,BG,BW,HSZ⟩:=Zq4 bB bG bW hsz;clear bB bG bW hsz
 go_loopw [21] (fun t wr=>∃(k:Nat),k≤vl∧t=.int .i64 (k:Int)∧Blk wr (w.heap.size+1) 3 (fnCells vl (idF k))∧Kept [w.heap.size+1] W0 wr) (fun t _=>vl-(intOf t).toNat)
 case atStart=>exact⟨0,Nat.zero_le _,rfl,BG.out,Kept.refl _ _⟩
 case round=>
  obtain⟨k,hk,rfl,hbg,hkp⟩:=hrel
  by_cases hlt:k<vl
  ·have k0:(0:Int)≤(k:Int):=(by omega);have k1:(k:Int)<(vl:Int):=(by omega);have c1:wr.cell? ⟨w.heap.size+1,k,none⟩=some (.int .i64 (idF k k)):=(by rw[hbg.cell,fnCells_get _ _ _ hlt]);have f1:wr.frozen? ⟨w.heap.size+1,k,none⟩=false:=hbg.frozen k;have hb2:=hbg.set_ k (.int .i64 (k:Int));rw[fnCells_set,idF_set]at hb2;have hk2:=hkp.set (p:=⟨w.heap.size+1,k,none⟩) (.inl (by simp)) (.int .i64 (k:Int))
   obtain⟨HBG,HKP,HB2,HK2⟩:=Zq4 hbg hkp hb2 hk2;clear hbg hkp hb2 hk2
   go_wp2_with fail;go_roundw;exact⟨k+1,by omega,by go_num,HB2.out,HK2.out⟩;simp[intOf];omega
  ·obtain rfl:k=vl:=(by omega);have k1:¬(k:Int)<(k:Int):=(by omega);have hkb:=hkp.blk BB.out (by simp);have hbel:=Kept.below BW.out hkp (by rw[HSZ.out];omega) (fun q hq=>by simp at hq;omega);have hsrt:SrtW wr (w.heap.size+1) k k wr (idF k):=⟨Kept.refl _ _,hbg,fun x hx=>by unfold idF;rw[if_pos hx];omega⟩;have hszr:w.heap.size+1+1≤wr.heap.size:=(by have:=hkp.size;have:=HSZ.out;omega)
   have cS:=sortStable_any 138 #[.pointer (some ⟨w.heap.size,0,none⟩)] (cmpX xs) wr (w.heap.size+1) k k (by omega) (cmpX_ok xs) (fun args W=>by kernel_rfl)
    (fun W i j hkw hi0 hi1 hj0 hj1=>by
     have e1:i=((i.toNat:Nat):Int):=(by omega);have e2:j=((j.toNat:Nat):Int):=(by omega);rw[e1,e2];exact sort1_any w.heap.size lA k lc xs i.toNat j.toNat W (hkw.cell (hkb.cell 0) (by simp)) (H.out.ext (Kept.below hbel hkw (by omega) (fun q hq=>by simp at hq;omega))) H63.out (by omega) (by omega)) wr (idF k) hsrt
   obtain⟨HBG,HKP,HKB,HBEL,HSRT,CS⟩:=Zq6 hbg hkp hkb hbel hsrt cS;clear hbg hkp hkb hbel hsrt cS
   go_wp2_with fail;go_fit CS.out;rintro _ w2 ⟨rfl,f,hw2,hp2,hs2⟩;have hzp:=zipF_perm HXL.out.symm HWL.out.symm hp2;have hzs:=zipF_sum HXL.out.symm HWL.out.symm hp2;have hzq:=zipF_pos HXL.out.symm HWL.out.symm hp2 HPOS.out;have hB0:=hw2.kept.blk HKB.out (by simp);have hbel2:=Kept.below HBEL.out hw2.kept (by omega) (fun q hq=>by simp at hq;omega);have hsz2:=hw2.kept.size;have hbg2:=hw2.blk;have hlt2:=hw2.lt
   obtain⟨HW2,HP2,HS2,HZP,HZS,HZQ,HB0,HBEL2,HBG2,HLT2⟩:=Zq10 hw2 hp2 hs2 hzp hzs hzq hB0 hbel2 hbg2 hlt2;clear hw2 hp2 hs2 hzp hzs hzq hB0 hbel2 hbg2 hlt2
   clear HBG HKP HKB HBEL HSRT CS;go_wp2_with fail;clear k1
   obtain⟨wa,rfl⟩:∃wa:World,wa=w2:=⟨_,rfl⟩
   go_loopw [8,9,34] (fun ov sv t wr=>∃(i l:Nat) (os ss:LI),i≤k∧l≤i∧t=.int .i64 (i:Int)∧OwnI wr wa.heap.size ov l os∧OwnI wr wa.heap.size sv l ss∧(∀q,ov.ownBlock=some q→sv.ownBlock≠some q)∧Below wa.heap.size wa wr∧Mrg ((zipF xs ws f k).take i) os ss) (fun _ _ t _=>k-(intOf t).toNat)
   case atStart=>exact⟨0,0,[],[],Nat.zero_le _,Nat.le_refl _,rfl,OwnI.nil _ _,OwnI.nil _ _,by simp[Value.ownBlock],Below.refl _ _,Mrg.nil⟩
   case round=>
    obtain⟨i,l,os,ss,hi,hli,rfl,oo,os',hne,hbw,hm⟩:=hrel
    have hb0:=HB0.out.bel hbw;have hbg:=HBG2.out.bel hbw;have hbw2:=bel_trans HBEL2.out hbw
    by_cases hlt:i<k
    ·have i0:(0:Int)≤(i:Int):=(by omega);have i1:(i:Int)<(k:Int):=(by omega);have hfl:=HLT2.out i hlt
     obtain⟨j,hj1,hj2⟩:∃j:Nat,f i=(j:Int)∧j<k:=⟨(f i).toNat,by omega,by omega⟩
     have cg:wr.cell? ⟨w.heap.size+1,i,none⟩=some (.int .i64 (j:Int)):=(by rw[hbg.cell,fnCells_get _ _ _ hlt,hj1]);have cb:wr.cell? ⟨w.heap.size,0,none⟩=some (.slice lA k lc):=hb0.cell 0
     obtain⟨x,hx,-⟩:=H.out.drop hj2
     obtain⟨y,hy,-⟩:=HW.out.drop hj2
     obtain⟨xb,xo,rfl,_,cx,xi⟩:=(H.out.ext hbw2).int hx
     obtain⟨yb,yo,rfl,_,cy,yi⟩:=(HW.out.ext hbw2).int hy
     have hzt:=zipF_take (xs:=xs) (ws:=ws) (f:=f) hlt;have hge:=zipF_ge (ws:=ws) hlt HS2.out;rw[hj1]at hzt hge
     have cxw:w.cell? ⟨xb,xo+j,none⟩=some (.int .i64 x):=by
      obtain⟨b',o',e',_,c',_⟩:=H.out.int hx
      cases e';exact c'
     have cyw:w.cell? ⟨yb,yo+j,none⟩=some (.int .i64 y):=by
      obtain⟨b',o',e',_,c',_⟩:=HW.out.int hy
      cases e';exact c'
     obtain⟨CXW,CYW⟩:=Zq2 cxw cyw;clear cxw cyw
     have ex:xs.getD ((j:Int)).toNat 0=x:=(by simp[hx]);have ey:ws.getD ((j:Int)).toNat 0=y:=(by simp[hy]);rw[ex,ey]at hzt;rw[ex]at hge;have j0:(0:Int)≤(j:Int):=(by omega);have j1:(j:Int)<(k:Int):=(by omega);have hlo:=oo.len;have hls:=os'.len;rcases Nat.eq_zero_or_pos l with h0 | h0
     ·obtain rfl:=h0;have hos:os=[]:=List.eq_nil_of_length_eq_zero hlo.symm;have hss:ss=[]:=List.eq_nil_of_length_eq_zero hls.symm
      obtain⟨oA,oc,rfl,-⟩:=oo.sl (by omega) (by rw[hos];simp)
      obtain⟨sA,sc,rfl,-⟩:=os'.sl (by omega) (by rw[hss];simp)
      have hmn:=hm.new (x:=x) (y:=y) hge (by rw[hos];simp);rw[← hzt]at hmn
      obtain⟨HM,HX,HY,OO,OS',HNE,HBW,HBG,HBW2,HZT,HGE,XI⟩:=Zq12 hm hx hy oo os' hne hbw hbg hbw2 hzt hge xi;clear hm hx hy oo os' hne hbw hbg hbw2 hzt hge xi
      obtain⟨YI,HMN,HOS,HSS,HLO,HLS⟩:=Zq6 yi hmn hos hss hlo hls;clear yi hmn hos hss hlo hls
      clear hj1 ex ey hb0;go_wp2_with fail;refine wp_region_later [] (by kernel_rfl) (by kernel_rfl) (by simp[go_sem, *]) ?_;intro _
      repeat go_big_quiet_step (fail)
      refine wpQuiet_nil ?_;rintro w2 ⟨u13,rfl⟩;have HU13:=Zq1 u13.h;have hb13:=HU13.out;generalize u13.w=wu at *;have HB13:=Zq1 hb13;clear hb13;clear HU13;go_wp2_with fail;have hbwu:=bel_trans HBW.out HB13.out;have HBWU:=Zq1 hbwu;clear hbwu;refine wp_region_inv (fun listed a' w'=>∃(b0 b1 b2 b3 b4 b5 b6 b7 b8 b9 b10 b11 b12 b13 b14 b15:Bool) (u65 u66 u67 u68 u69 u70 u71 u72 u73 u74 u75 u76 u77 u78 u8 u9:Value),listed=#[b0,b1,b2,b3,b4,b5,b6,b7,b8,b9,b10,b11,b12,b13,b14,b15]∧a'={ tmps:=#[.slice (some ⟨xb,xo,none⟩) k lc,.slice (some ⟨yb,yo,none⟩) k vc,.pointer (some ⟨w.heap.size,0,none⟩),undef,.slice none 0 0,.slice none 0 0,.slice (some ⟨w.heap.size+1,0,none⟩) k k,u7,u8,u9,undef,.int .i64 (j:Int),.int .i64 0,undef,undef,undef,.slice (some ⟨xb,xo,none⟩) k lc,.int .i64 (k:Int),.slice (some ⟨w.heap.size+1,0,none⟩) k k,.slice (some ⟨w.heap.size+1,0,none⟩) k k,.int .i64 (k:Int),.int .i64 (k:Int),.bool false,u23,u24,u25,u26,u27,u28,.slice (some ⟨w.heap.size+1,0,none⟩) k k,Value.func (Fn.func 138) #[] #[.pointer (some ⟨w.heap.size,0,none⟩)],Value.tuple #[],.slice (some ⟨w.heap.size+1,0,none⟩) k k,.int .i64 (k:Int),.int .i64 (i:Int),.bool true,.pointer (some ⟨w.heap.size+1,i,none⟩),.int .i64 (j:Int),.slice oA 0 oc,.int .i64 0,.int .i64 0,.bool false,.bool false,undef,undef,undef,undef,undef,undef,undef,undef,undef,undef,.bool false,u54,u55,u56,u57,u58,u59,u60,u61,u62,u63,u64,u65,u66,u67,u68,u69,u70,u71,u72,u73,u74,u75,u76,u77,u78,u79,undef,undef,undef,undef,undef,undef,undef,undef,undef,undef,undef,undef,undef,undef,undef,undef,undef,undef,undef,undef,undef,undef,undef,undef,undef,undef,undef,undef,undef],defers:=[] }∧App2J wa (.slice oA 0 oc) (.slice sA 0 sc) (.slice (some ⟨xb,xo,none⟩) k lc) (.slice (some ⟨yb,yo,none⟩) k vc) (.pointer (some ⟨xb,xo+j,none⟩)) (.pointer (some ⟨yb,yo+j,none⟩)) 0 os ss x y j w' b0 b1 b2 b3 b4 b5 b6 b7 b8 b9 b10 b11 b12 b13 b14 b15 u65 u66 u67 u68 u69 u70 u71 u72 u73 u74 u75 u76 u77 u78 u8 u9) (by kernel_rfl) ?start ?step ?fin
      case start=>exact⟨false,false,false,false,false,false,false,false,false,false,false,false,false,false,false,false,_,_,_,_,_,_,_,_,_,_,_,_,_,_,_,_,rfl,rfl,App2J.start (bel_trans HBWU.out (Below.refl _ _).drew) (OO.out.bel (bel_trans HB13.out (Below.refl _ _).drew)) (OS'.out.bel (bel_trans HB13.out (Below.refl _ _).drew)) HNE.out⟩
      case step=>
       rintro listed a' w' i o ⟨b0,b1,b2,b3,b4,b5,b6,b7,b8,b9,b10,b11,b12,b13,b14,b15,u65,u66,u67,u68,u69,u70,u71,u72,u73,u74,u75,u76,u77,u78,u8,u9,rfl,rfl,h⟩ ho hli hd K hK;have Zqx:=fun i h=>hd ⟨i,.data⟩ h rfl
       match i,ho,hli,hd with
       |0,ho,hli,hd=>obtain⟨rfl,rfl⟩:_∧b0=false:=Zqj ho hli;obtain rfl:=h.n8;go_simp;exact hK _ _ ⟨_,_,_,_,_,_,_,_,_,_,_,_,_,_,_,_,_,_,_,_,_,_,_,_,_,_,_,_,_,_,_,_,rfl,rfl,{ h with f0:=fun _=>rfl,d6:=fun e=>⟨rfl,(h.d6 e).2⟩ }⟩
       |1,ho,hli,hd=>obtain⟨rfl,rfl⟩:_∧b1=false:=Zqj ho hli;have m0:w'.cell? ⟨w.heap.size,0,none⟩=some (.slice (some ⟨xb,xo,none⟩) k lc):=(HB0.out.bel h.bel).cell 0;go_simp;exact hK _ _ ⟨_,_,_,_,_,_,_,_,_,_,_,_,_,_,_,_,_,_,_,_,_,_,_,_,_,_,_,_,_,_,_,_,rfl,rfl,{ h with f1:=fun _=>rfl }⟩
       |2,ho,hli,hd=>obtain⟨rfl,rfl⟩:_∧b2=false:=Zqj ho hli;go_simp;exact hK _ _ ⟨_,_,_,_,_,_,_,_,_,_,_,_,_,_,_,_,_,_,_,_,_,_,_,_,_,_,_,_,_,_,_,_,rfl,rfl,{ h with f2:=fun _=>rfl }⟩
       |3,ho,hli,hd=>obtain⟨rfl,rfl⟩:_∧b3=false:=Zqj ho hli;obtain rfl:b1=true:=Zqx 1 (by simp);obtain rfl:b2=true:=Zqx 2 (by simp);obtain rfl:=h.f1 rfl;obtain rfl:=h.f2 rfl;go_simp;exact hK _ _ ⟨_,_,_,_,_,_,_,_,_,_,_,_,_,_,_,_,_,_,_,_,_,_,_,_,_,_,_,_,_,_,_,_,rfl,rfl,{ h with f3:=fun _=>rfl }⟩
       |4,ho,hli,hd=>obtain⟨rfl,rfl⟩:_∧b4=false:=Zqj ho hli;obtain rfl:b3=true:=Zqx 3 (by simp);obtain rfl:=h.f3 rfl;have m1:w'.cell? ⟨xb,xo+j,none⟩=some (.int .i64 x):=((bel_trans HBEL2.out h.bel).cell (World.block_lt_of_cell? _ _ CXW.out)).trans CXW.out;go_simp;exact hK _ _ ⟨_,_,_,_,_,_,_,_,_,_,_,_,_,_,_,_,_,_,_,_,_,_,_,_,_,_,_,_,_,_,_,_,rfl,rfl,{ h with f4:=fun _=>rfl }⟩
       |5,ho,hli,hd=>obtain⟨rfl,rfl⟩:_∧b5=false:=Zqj ho hli;obtain rfl:b4=true:=Zqx 4 (by simp);obtain rfl:=h.f4 rfl;go_simp;exact hK _ _ ⟨_,_,_,_,_,_,_,_,_,_,_,_,_,_,_,_,_,_,_,_,_,_,_,_,_,_,_,_,_,_,_,_,rfl,rfl,h.op5⟩
       |6,ho,hli,hd=>obtain⟨rfl,rfl⟩:_∧b6=false:=Zqj ho hli;obtain rfl:b0=true:=Zqx 0 (by simp);obtain rfl:b5=true:=Zqx 5 (by simp);obtain rfl:=h.f0 rfl;refine h.op6 rfl rfl rfl rfl (by omega) XI.out (fun v w' h'=>?_);exact hK _ _ ⟨_,_,_,_,_,_,_,_,_,_,_,_,_,_,_,_,_,_,_,_,_,_,_,_,_,_,_,_,_,_,_,_,rfl,rfl,h'⟩
       |7,ho,hli,hd=>obtain⟨rfl,rfl⟩:_∧b7=false:=Zqj ho hli;obtain rfl:=h.n9;go_simp;exact hK _ _ ⟨_,_,_,_,_,_,_,_,_,_,_,_,_,_,_,_,_,_,_,_,_,_,_,_,_,_,_,_,_,_,_,_,rfl,rfl,{ h with f7:=fun _=>rfl,d13:=fun e=>⟨rfl,(h.d13 e).2⟩ }⟩
       |8,ho,hli,hd=>obtain⟨rfl,rfl⟩:_∧b8=false:=Zqj ho hli;go_simp;exact hK _ _ ⟨_,_,_,_,_,_,_,_,_,_,_,_,_,_,_,_,_,_,_,_,_,_,_,_,_,_,_,_,_,_,_,_,rfl,rfl,{ h with f8:=fun _=>rfl }⟩
       |9,ho,hli,hd=>obtain⟨rfl,rfl⟩:_∧b9=false:=Zqj ho hli;go_simp;exact hK _ _ ⟨_,_,_,_,_,_,_,_,_,_,_,_,_,_,_,_,_,_,_,_,_,_,_,_,_,_,_,_,_,_,_,_,rfl,rfl,{ h with f9:=fun _=>rfl }⟩
       |10,ho,hli,hd=>obtain⟨rfl,rfl⟩:_∧b10=false:=Zqj ho hli;obtain rfl:b8=true:=Zqx 8 (by simp);obtain rfl:b9=true:=Zqx 9 (by simp);obtain rfl:=h.f8 rfl;obtain rfl:=h.f9 rfl;go_simp;exact hK _ _ ⟨_,_,_,_,_,_,_,_,_,_,_,_,_,_,_,_,_,_,_,_,_,_,_,_,_,_,_,_,_,_,_,_,rfl,rfl,{ h with f10:=fun _=>rfl }⟩
       |11,ho,hli,hd=>obtain⟨rfl,rfl⟩:_∧b11=false:=Zqj ho hli;obtain rfl:b10=true:=Zqx 10 (by simp);obtain rfl:=h.f10 rfl;have m2:w'.cell? ⟨yb,yo+j,none⟩=some (.int .i64 y):=((bel_trans HBEL2.out h.bel).cell (World.block_lt_of_cell? _ _ CYW.out)).trans CYW.out;go_simp;exact hK _ _ ⟨_,_,_,_,_,_,_,_,_,_,_,_,_,_,_,_,_,_,_,_,_,_,_,_,_,_,_,_,_,_,_,_,rfl,rfl,{ h with f11:=fun _=>rfl }⟩
       |12,ho,hli,hd=>obtain⟨rfl,rfl⟩:_∧b12=false:=Zqj ho hli;obtain rfl:b11=true:=Zqx 11 (by simp);obtain rfl:=h.f11 rfl;go_simp;exact hK _ _ ⟨_,_,_,_,_,_,_,_,_,_,_,_,_,_,_,_,_,_,_,_,_,_,_,_,_,_,_,_,_,_,_,_,rfl,rfl,h.op12⟩
       |13,ho,hli,hd=>obtain⟨rfl,rfl⟩:_∧b13=false:=Zqj ho hli;obtain rfl:b7=true:=Zqx 7 (by simp);obtain rfl:b12=true:=Zqx 12 (by simp);obtain rfl:=h.f7 rfl;refine h.op13 rfl rfl rfl rfl (by omega) YI.out (fun v w' h'=>?_);exact hK _ _ ⟨_,_,_,_,_,_,_,_,_,_,_,_,_,_,_,_,_,_,_,_,_,_,_,_,_,_,_,_,_,_,_,_,rfl,rfl,h'⟩
       |14,ho,hli,hd=>obtain⟨rfl,rfl⟩:_∧b14=false:=Zqj ho hli;obtain rfl:b6=true:=Zqx 6 (by simp);go_simp;exact hK _ _ ⟨_,_,_,_,_,_,_,_,_,_,_,_,_,_,_,_,_,_,_,_,_,_,_,_,_,_,_,_,_,_,_,_,rfl,rfl,{ h with f14:=fun _=>rfl,g14:=by simp,d14:=fun _=>rfl }⟩
       |15,ho,hli,hd=>obtain⟨rfl,rfl⟩:_∧b15=false:=Zqj ho hli;obtain rfl:b13=true:=Zqx 13 (by simp);go_simp;exact hK _ _ ⟨_,_,_,_,_,_,_,_,_,_,_,_,_,_,_,_,_,_,_,_,_,_,_,_,_,_,_,_,_,_,_,_,rfl,rfl,{ h with f15:=fun _=>rfl,g15:=by simp,d15:=fun _=>rfl }⟩
       |i+16,ho,hli,hd=>simp at ho
      case fin=>
       rintro listed a' w' ⟨b0,b1,b2,b3,b4,b5,b6,b7,b8,b9,b10,b11,b12,b13,b14,b15,u65,u66,u67,u68,u69,u70,u71,u72,u73,u74,u75,u76,u77,u78,u8,u9,rfl,rfl,h⟩ hr;obtain rfl:b0=true:=Zqn hr 0 rfl;obtain rfl:b1=true:=Zqn hr 1 rfl;obtain rfl:b2=true:=Zqn hr 2 rfl;obtain rfl:b3=true:=Zqn hr 3 rfl;obtain rfl:b4=true:=Zqn hr 4 rfl;obtain rfl:b5=true:=Zqn hr 5 rfl;obtain rfl:b6=true:=Zqn hr 6 rfl;obtain rfl:b7=true:=Zqn hr 7 rfl;obtain rfl:b8=true:=Zqn hr 8 rfl;obtain rfl:b9=true:=Zqn hr 9 rfl;obtain rfl:b10=true:=Zqn hr 10 rfl;obtain rfl:b11=true:=Zqn hr 11 rfl;obtain rfl:b12=true:=Zqn hr 12 rfl;obtain rfl:b13=true:=Zqn hr 13 rfl;obtain rfl:b14=true:=Zqn hr 14 rfl;obtain rfl:b15=true:=Zqn hr 15 rfl;clear hr;have hbl:=h.bel
       obtain⟨vo,lo,oo2,vs,ls2,so2,ho2,hsn,hne2,-,h6t,-,h13t,-,-⟩:=h.row
       obtain⟨rfl,rfl,rfl⟩:=h6t rfl
       obtain⟨rfl,rfl,rfl⟩:=h13t rfl
       obtain rfl:=h.f14 rfl;obtain rfl:=h.f15 rfl;clear h
       obtain⟨HBL,HO2,HSN,HNE2⟩:=Zq4 hbl ho2 hsn hne2;clear hbl ho2 hsn hne2
       go_wp2_with fail;go_roundw;exact⟨u8,u9,_,_,_,⟨i+1,by omega,_,by omega,by go_num,_,HO2.out,_,HSN.out,HNE2.out,HBL.out,HMN.out⟩,rfl,rfl,rfl,rfl,rfl⟩;simp[intOf];omega
     ·obtain⟨p,rfl⟩:∃p,l=p+1:=⟨l-1,by omega⟩
      obtain⟨go,co,rfl,hgo,hgol,hco,hfo⟩:=oo.form (by omega)
      obtain⟨gs,cs,rfl,hgs,hgsl,hcs,hfs⟩:=os'.form (by omega)
      obtain⟨o,ho⟩:∃o,os[p]? = some o:=⟨_,List.getElem?_eq_getElem (by omega)⟩
      obtain⟨s,hs⟩:∃s,ss[p]? = some s:=⟨_,List.getElem?_eq_getElem (by omega)⟩
      have co1:=hco p o ho;have cs1:=hcs p s hs;have fs1:=hfs p;have p0:(0:Int)≤(p:Int):=(by omega);have p1:(p:Int)<(p:Int)+1:=(by omega);have p2:IntKind.i64.wrap ((p:Int)+1-1)=(p:Int):=(by rw[IntWalk.i64_in _ (by omega)];omega);have p3:(0:Int)<(p:Int)+1:=(by omega);have hbd:=hm.bd (fun q hq=>by have:=HZQ.out q (List.mem_of_mem_take hq);omega);have hbs:=hbd s (List.mem_of_getElem? hs)
      by_cases hox:o=x
      ·have hmn:=hm.more (x:=x) (y:=y) (s:=s) (by omega) (by rw[ho,hox]) hs;rw[← hzt]at hmn;have ex1:(o==x)=true:=(by simp[hox]);subst hox
       obtain⟨HM,HX,HY,OO,OS',HNE,HBW,HBG,HBW2,HZT,HGE,XI⟩:=Zq12 hm hx hy oo os' hne hbw hbg hbw2 hzt hge xi;clear hm hx hy oo os' hne hbw hbg hbw2 hzt hge xi
       obtain⟨YI,HMN,HLO,HLS,HCO,HCS,HFO,HFS,HO,HS,HBD⟩:=Zq11 yi hmn hlo hls hco hcs hfo hfs ho hs hbd;clear yi hmn hlo hls hco hcs hfo hfs ho hs hbd
       clear hj1 ex ey hb0;go_wp2_with fail;refine wp_region_later [(⟨w.heap.size,0,none⟩,.slice (some ⟨xb,xo,none⟩) k lc),(⟨xb,xo+j,none⟩,.int .i64 o),(⟨go,p,none⟩,.int .i64 o)] (by kernel_rfl) (by kernel_rfl) (by simp[go_sem, *]) ?_;intro hk;simp only[List.forall_mem_cons]at hk;obtain⟨k13_0,k13_1,k13_2,kz⟩:=hk;clear kz
       repeat go_big_quiet_step (fail)
       refine wpQuiet_nil ?_;rintro w2 ⟨u13,rfl⟩;have HU13:=Zq1 u13.h;clear k13_0 k13_1 k13_2;have hb13:=HU13.out;have cs2:=(hb13.cell (World.block_lt_of_cell? _ _ cs1)).trans cs1;have fs2:=(hb13.frozen (World.block_lt_of_cell? _ _ cs1)).trans fs1;have cy2:=(hb13.cell (World.block_lt_of_cell? _ _ cy)).trans cy;generalize u13.w=wu at *;have hbwu:=bel_trans HBW.out hb13
       have hbs2:=HMN.out.bd (fun q hq=>by have:=HZQ.out q (List.mem_of_mem_take hq);omega) (s+y) (by
        refine List.mem_iff_getElem?.2 ⟨p,?_⟩;rw[List.getElem?_set_self (by have:=HLS.out;omega)])
       have hbt:(((zipF xs ws f k).take (i+1)).map Prod.snd).sum≤1048576:=by
        rw[List.map_take];refine Int.le_trans (sum_take_le _ _ (fun z hz=>?_)) (by rw[HZS.out];exact HSUM.out)
        obtain⟨q,hq,rfl⟩:=List.mem_map.1 hz
        have:=HZQ.out q hq;omega
       have w1:IntKind.i64.wrap (s+y)=s+y:=IntWalk.i64_in _ (by omega);have k1:Kept [gs] wu ((wu.setCell ⟨gs,p,none⟩ (.int .i64 (s+y))).drew):=((Kept.refl _ _).set (.inl (by simp)) _).drew
       have oo2:=(OO.out.bel hb13).keptS k1 (fun q hq hm=>by
        simp at hm;subst hm;exact HNE.out q hq rfl)
       have os2:=(OwnI.put (OS'.out.bel hb13) p (s+y)).bel (Below.refl _ _).drew;have hbw5:=Kept.below hbwu k1 hbwu.size (fun q hq=>by simp at hq;omega);clear cs1 fs1 co1 cg cb cx cy
       obtain⟨HB13,HBWU,HBS2,HBT,K1,OO2,OS2,HBW5⟩:=Zq8 hb13 hbwu hbs2 hbt k1 oo2 os2 hbw5;clear hb13 hbwu hbs2 hbt k1 oo2 os2 hbw5
       clear HU13;go_wp2_with fail;go_region;generalize (wu.setCell ⟨gs,p,none⟩ (.int .i64 (s+y))).drew=w5 at *;clear cs2 fs2 cy2;go_wp2_with fail
       exact⟨⟨i+1,p+1,_,_,by omega,by omega,by go_num,OO2.out,OS2.out,HNE.out,HBW5.out,HMN.out⟩,by simp[intOf];omega⟩
      ·have hmn:=hm.new (x:=x) (y:=y) hge (fun o2 h2=>by
        rw[List.getLast?_eq_getElem?,← hlo,show p+1-1=p from rfl,ho]at h2
        cases h2;exact hox)
       rw[← hzt]at hmn;have ex1:(o==x)=false:=(by simp[hox])
       obtain⟨HM,HX,HY,OO,OS',HNE,HBW,HBG,HBW2,HZT,HGE,XI⟩:=Zq12 hm hx hy oo os' hne hbw hbg hbw2 hzt hge xi;clear hm hx hy oo os' hne hbw hbg hbw2 hzt hge xi
       obtain⟨YI,HMN,HLO,HLS,HCO,HCS,HFO,HFS,HO,HS,HBD,HOX⟩:=Zq12 yi hmn hlo hls hco hcs hfo hfs ho hs hbd hox;clear yi hmn hlo hls hco hcs hfo hfs ho hs hbd hox
       clear hj1 ex ey hb0;go_wp2_with fail;refine wp_region_later [(⟨w.heap.size,0,none⟩,.slice (some ⟨xb,xo,none⟩) k lc),(⟨xb,xo+j,none⟩,.int .i64 x),(⟨go,p,none⟩,.int .i64 o)] (by kernel_rfl) (by kernel_rfl) (by simp[go_sem, *]) ?_;intro hk;simp only[List.forall_mem_cons]at hk;obtain⟨k13_0,k13_1,k13_2,kz⟩:=hk;clear kz
       repeat go_big_quiet_step (fail)
       refine wpQuiet_nil ?_;rintro w2 ⟨u13,rfl⟩;have HU13:=Zq1 u13.h;clear k13_0 k13_1 k13_2;have hb13:=HU13.out;generalize u13.w=wu at *;have HB13:=Zq1 hb13;clear hb13;clear HU13;go_wp2_with fail;have hbwu:=bel_trans HBW.out HB13.out;have HBWU:=Zq1 hbwu;clear hbwu;refine wp_region_inv (fun listed a' w'=>∃(b0 b1 b2 b3 b4 b5 b6 b7 b8 b9 b10 b11 b12 b13 b14 b15:Bool) (u65 u66 u67 u68 u69 u70 u71 u72 u73 u74 u75 u76 u77 u78 u8 u9:Value),listed=#[b0,b1,b2,b3,b4,b5,b6,b7,b8,b9,b10,b11,b12,b13,b14,b15]∧a'={ tmps:=#[.slice (some ⟨xb,xo,none⟩) k lc,.slice (some ⟨yb,yo,none⟩) k vc,.pointer (some ⟨w.heap.size,0,none⟩),undef,.slice none 0 0,.slice none 0 0,.slice (some ⟨w.heap.size+1,0,none⟩) k k,u7,u8,u9,undef,.int .i64 (j:Int),.int .i64 ((p:Int)+1),undef,undef,undef,.slice (some ⟨xb,xo,none⟩) k lc,.int .i64 (k:Int),.slice (some ⟨w.heap.size+1,0,none⟩) k k,.slice (some ⟨w.heap.size+1,0,none⟩) k k,.int .i64 (k:Int),.int .i64 (k:Int),.bool false,u23,u24,u25,u26,u27,u28,.slice (some ⟨w.heap.size+1,0,none⟩) k k,Value.func (Fn.func 138) #[] #[.pointer (some ⟨w.heap.size,0,none⟩)],Value.tuple #[],.slice (some ⟨w.heap.size+1,0,none⟩) k k,.int .i64 (k:Int),.int .i64 (i:Int),.bool true,.pointer (some ⟨w.heap.size+1,i,none⟩),.int .i64 (j:Int),.slice (some ⟨go,0,none⟩) (p+1) co,.int .i64 ((p:Int)+1),.int .i64 ((p:Int)+1),.bool true,.bool true,.slice (some ⟨go,0,none⟩) (p+1) co,.int .i64 ((p:Int)+1),.int .i64 (p:Int),.pointer (some ⟨go,p,none⟩),.int .i64 o,.slice (some ⟨xb,xo,none⟩) k lc,.int .i64 (j:Int),.pointer (some ⟨xb,xo+j,none⟩),.int .i64 x,.bool false,.bool false,u54,u55,u56,u57,u58,u59,u60,u61,u62,u63,u64,u65,u66,u67,u68,u69,u70,u71,u72,u73,u74,u75,u76,u77,u78,u79,undef,undef,undef,undef,undef,undef,undef,undef,undef,undef,undef,undef,undef,undef,undef,undef,undef,undef,undef,undef,undef,undef,undef,undef,undef,undef,undef,undef,undef],defers:=[] }∧App2J wa (.slice (some ⟨go,0,none⟩) (p+1) co) (.slice (some ⟨gs,0,none⟩) (p+1) cs) (.slice (some ⟨xb,xo,none⟩) k lc) (.slice (some ⟨yb,yo,none⟩) k vc) (.pointer (some ⟨xb,xo+j,none⟩)) (.pointer (some ⟨yb,yo+j,none⟩)) (p+1) os ss x y j w' b0 b1 b2 b3 b4 b5 b6 b7 b8 b9 b10 b11 b12 b13 b14 b15 u65 u66 u67 u68 u69 u70 u71 u72 u73 u74 u75 u76 u77 u78 u8 u9) (by kernel_rfl) ?start ?step ?fin
       case start=>exact⟨false,false,false,false,false,false,false,false,false,false,false,false,false,false,false,false,_,_,_,_,_,_,_,_,_,_,_,_,_,_,_,_,rfl,rfl,App2J.start (bel_trans HBWU.out (Below.refl _ _).drew) (OO.out.bel (bel_trans HB13.out (Below.refl _ _).drew)) (OS'.out.bel (bel_trans HB13.out (Below.refl _ _).drew)) HNE.out⟩
       case step=>
        rintro listed a' w' i o ⟨b0,b1,b2,b3,b4,b5,b6,b7,b8,b9,b10,b11,b12,b13,b14,b15,u65,u66,u67,u68,u69,u70,u71,u72,u73,u74,u75,u76,u77,u78,u8,u9,rfl,rfl,h⟩ ho hli hd K hK;have Zqx:=fun i h=>hd ⟨i,.data⟩ h rfl
        match i,ho,hli,hd with
        |0,ho,hli,hd=>obtain⟨rfl,rfl⟩:_∧b0=false:=Zqj ho hli;obtain rfl:=h.n8;go_simp;exact hK _ _ ⟨_,_,_,_,_,_,_,_,_,_,_,_,_,_,_,_,_,_,_,_,_,_,_,_,_,_,_,_,_,_,_,_,rfl,rfl,{ h with f0:=fun _=>rfl,d6:=fun e=>⟨rfl,(h.d6 e).2⟩ }⟩
        |1,ho,hli,hd=>obtain⟨rfl,rfl⟩:_∧b1=false:=Zqj ho hli;have m0:w'.cell? ⟨w.heap.size,0,none⟩=some (.slice (some ⟨xb,xo,none⟩) k lc):=(HB0.out.bel h.bel).cell 0;go_simp;exact hK _ _ ⟨_,_,_,_,_,_,_,_,_,_,_,_,_,_,_,_,_,_,_,_,_,_,_,_,_,_,_,_,_,_,_,_,rfl,rfl,{ h with f1:=fun _=>rfl }⟩
        |2,ho,hli,hd=>obtain⟨rfl,rfl⟩:_∧b2=false:=Zqj ho hli;go_simp;exact hK _ _ ⟨_,_,_,_,_,_,_,_,_,_,_,_,_,_,_,_,_,_,_,_,_,_,_,_,_,_,_,_,_,_,_,_,rfl,rfl,{ h with f2:=fun _=>rfl }⟩
        |3,ho,hli,hd=>obtain⟨rfl,rfl⟩:_∧b3=false:=Zqj ho hli;obtain rfl:b1=true:=Zqx 1 (by simp);obtain rfl:b2=true:=Zqx 2 (by simp);obtain rfl:=h.f1 rfl;obtain rfl:=h.f2 rfl;go_simp;exact hK _ _ ⟨_,_,_,_,_,_,_,_,_,_,_,_,_,_,_,_,_,_,_,_,_,_,_,_,_,_,_,_,_,_,_,_,rfl,rfl,{ h with f3:=fun _=>rfl }⟩
        |4,ho,hli,hd=>obtain⟨rfl,rfl⟩:_∧b4=false:=Zqj ho hli;obtain rfl:b3=true:=Zqx 3 (by simp);obtain rfl:=h.f3 rfl;have m1:w'.cell? ⟨xb,xo+j,none⟩=some (.int .i64 x):=((bel_trans HBEL2.out h.bel).cell (World.block_lt_of_cell? _ _ CXW.out)).trans CXW.out;go_simp;exact hK _ _ ⟨_,_,_,_,_,_,_,_,_,_,_,_,_,_,_,_,_,_,_,_,_,_,_,_,_,_,_,_,_,_,_,_,rfl,rfl,{ h with f4:=fun _=>rfl }⟩
        |5,ho,hli,hd=>obtain⟨rfl,rfl⟩:_∧b5=false:=Zqj ho hli;obtain rfl:b4=true:=Zqx 4 (by simp);obtain rfl:=h.f4 rfl;go_simp;exact hK _ _ ⟨_,_,_,_,_,_,_,_,_,_,_,_,_,_,_,_,_,_,_,_,_,_,_,_,_,_,_,_,_,_,_,_,rfl,rfl,h.op5⟩
        |6,ho,hli,hd=>obtain⟨rfl,rfl⟩:_∧b6=false:=Zqj ho hli;obtain rfl:b0=true:=Zqx 0 (by simp);obtain rfl:b5=true:=Zqx 5 (by simp);obtain rfl:=h.f0 rfl;refine h.op6 rfl rfl rfl rfl (by omega) XI.out (fun v w' h'=>?_);exact hK _ _ ⟨_,_,_,_,_,_,_,_,_,_,_,_,_,_,_,_,_,_,_,_,_,_,_,_,_,_,_,_,_,_,_,_,rfl,rfl,h'⟩
        |7,ho,hli,hd=>obtain⟨rfl,rfl⟩:_∧b7=false:=Zqj ho hli;obtain rfl:=h.n9;go_simp;exact hK _ _ ⟨_,_,_,_,_,_,_,_,_,_,_,_,_,_,_,_,_,_,_,_,_,_,_,_,_,_,_,_,_,_,_,_,rfl,rfl,{ h with f7:=fun _=>rfl,d13:=fun e=>⟨rfl,(h.d13 e).2⟩ }⟩
        |8,ho,hli,hd=>obtain⟨rfl,rfl⟩:_∧b8=false:=Zqj ho hli;go_simp;exact hK _ _ ⟨_,_,_,_,_,_,_,_,_,_,_,_,_,_,_,_,_,_,_,_,_,_,_,_,_,_,_,_,_,_,_,_,rfl,rfl,{ h with f8:=fun _=>rfl }⟩
        |9,ho,hli,hd=>obtain⟨rfl,rfl⟩:_∧b9=false:=Zqj ho hli;go_simp;exact hK _ _ ⟨_,_,_,_,_,_,_,_,_,_,_,_,_,_,_,_,_,_,_,_,_,_,_,_,_,_,_,_,_,_,_,_,rfl,rfl,{ h with f9:=fun _=>rfl }⟩
        |10,ho,hli,hd=>obtain⟨rfl,rfl⟩:_∧b10=false:=Zqj ho hli;obtain rfl:b8=true:=Zqx 8 (by simp);obtain rfl:b9=true:=Zqx 9 (by simp);obtain rfl:=h.f8 rfl;obtain rfl:=h.f9 rfl;go_simp;exact hK _ _ ⟨_,_,_,_,_,_,_,_,_,_,_,_,_,_,_,_,_,_,_,_,_,_,_,_,_,_,_,_,_,_,_,_,rfl,rfl,{ h with f10:=fun _=>rfl }⟩
        |11,ho,hli,hd=>obtain⟨rfl,rfl⟩:_∧b11=false:=Zqj ho hli;obtain rfl:b10=true:=Zqx 10 (by simp);obtain rfl:=h.f10 rfl;have m2:w'.cell? ⟨yb,yo+j,none⟩=some (.int .i64 y):=((bel_trans HBEL2.out h.bel).cell (World.block_lt_of_cell? _ _ CYW.out)).trans CYW.out;go_simp;exact hK _ _ ⟨_,_,_,_,_,_,_,_,_,_,_,_,_,_,_,_,_,_,_,_,_,_,_,_,_,_,_,_,_,_,_,_,rfl,rfl,{ h with f11:=fun _=>rfl }⟩
        |12,ho,hli,hd=>obtain⟨rfl,rfl⟩:_∧b12=false:=Zqj ho hli;obtain rfl:b11=true:=Zqx 11 (by simp);obtain rfl:=h.f11 rfl;go_simp;exact hK _ _ ⟨_,_,_,_,_,_,_,_,_,_,_,_,_,_,_,_,_,_,_,_,_,_,_,_,_,_,_,_,_,_,_,_,rfl,rfl,h.op12⟩
        |13,ho,hli,hd=>obtain⟨rfl,rfl⟩:_∧b13=false:=Zqj ho hli;obtain rfl:b7=true:=Zqx 7 (by simp);obtain rfl:b12=true:=Zqx 12 (by simp);obtain rfl:=h.f7 rfl;refine h.op13 rfl rfl rfl rfl (by omega) YI.out (fun v w' h'=>?_);exact hK _ _ ⟨_,_,_,_,_,_,_,_,_,_,_,_,_,_,_,_,_,_,_,_,_,_,_,_,_,_,_,_,_,_,_,_,rfl,rfl,h'⟩
        |14,ho,hli,hd=>obtain⟨rfl,rfl⟩:_∧b14=false:=Zqj ho hli;obtain rfl:b6=true:=Zqx 6 (by simp);go_simp;exact hK _ _ ⟨_,_,_,_,_,_,_,_,_,_,_,_,_,_,_,_,_,_,_,_,_,_,_,_,_,_,_,_,_,_,_,_,rfl,rfl,{ h with f14:=fun _=>rfl,g14:=by simp,d14:=fun _=>rfl }⟩
        |15,ho,hli,hd=>obtain⟨rfl,rfl⟩:_∧b15=false:=Zqj ho hli;obtain rfl:b13=true:=Zqx 13 (by simp);go_simp;exact hK _ _ ⟨_,_,_,_,_,_,_,_,_,_,_,_,_,_,_,_,_,_,_,_,_,_,_,_,_,_,_,_,_,_,_,_,rfl,rfl,{ h with f15:=fun _=>rfl,g15:=by simp,d15:=fun _=>rfl }⟩
        |i+16,ho,hli,hd=>simp at ho
       case fin=>
        rintro listed a' w' ⟨b0,b1,b2,b3,b4,b5,b6,b7,b8,b9,b10,b11,b12,b13,b14,b15,u65,u66,u67,u68,u69,u70,u71,u72,u73,u74,u75,u76,u77,u78,u8,u9,rfl,rfl,h⟩ hr;obtain rfl:b0=true:=Zqn hr 0 rfl;obtain rfl:b1=true:=Zqn hr 1 rfl;obtain rfl:b2=true:=Zqn hr 2 rfl;obtain rfl:b3=true:=Zqn hr 3 rfl;obtain rfl:b4=true:=Zqn hr 4 rfl;obtain rfl:b5=true:=Zqn hr 5 rfl;obtain rfl:b6=true:=Zqn hr 6 rfl;obtain rfl:b7=true:=Zqn hr 7 rfl;obtain rfl:b8=true:=Zqn hr 8 rfl;obtain rfl:b9=true:=Zqn hr 9 rfl;obtain rfl:b10=true:=Zqn hr 10 rfl;obtain rfl:b11=true:=Zqn hr 11 rfl;obtain rfl:b12=true:=Zqn hr 12 rfl;obtain rfl:b13=true:=Zqn hr 13 rfl;obtain rfl:b14=true:=Zqn hr 14 rfl;obtain rfl:b15=true:=Zqn hr 15 rfl;clear hr;have hbl:=h.bel
        obtain⟨vo,lo,oo2,vs,ls2,so2,ho2,hsn,hne2,-,h6t,-,h13t,-,-⟩:=h.row
        obtain⟨rfl,rfl,rfl⟩:=h6t rfl
        obtain⟨rfl,rfl,rfl⟩:=h13t rfl
        obtain rfl:=h.f14 rfl;obtain rfl:=h.f15 rfl;clear h
        obtain⟨HBL,HO2,HSN,HNE2⟩:=Zq4 hbl ho2 hsn hne2;clear hbl ho2 hsn hne2
        go_wp2_with fail;go_roundw;exact⟨u8,u9,_,_,_,⟨i+1,by omega,_,by omega,by go_num,_,HO2.out,_,HSN.out,HNE2.out,HBL.out,HMN.out⟩,rfl,rfl,rfl,rfl,rfl⟩;simp[intOf];omega
    ·have i1:¬(i:Int)<(k:Int):=(by omega);have hzl:(zipF xs ws f k).take i=zipF xs ws f k:=List.take_of_length_le (by unfold zipF;simp;omega);rw[hzl]at hm;have hsp:=hm.pos HZQ.out;have hfin:=hm.fin HZP.out;rw[List.map_fst_zip (by have:=HXL.out;have:=HWL.out;omega)]at hfin;have hbd:=hm.bd (fun q hq=>by have:=HZQ.out q hq;omega);rw[HZS.out]at hbd
     have ho64:∀z∈os,I64 z:=fun z hz=>by
      rw[hfin.1]at hz;exact H.out.all64 z ((lits_mem z xs).1 hz)
     have hs64:∀z∈ss,I64 z:=fun z hz=>by have:=hbd z hz;have:=HSUM.out;unfold I64;omega
     obtain⟨oA,oc,rfl,-⟩:=oo.sl (by omega) ho64
     obtain⟨sA,sc,rfl,-⟩:=os'.sl (by omega) hs64
     obtain⟨HM,HSP,HFIN,HBD,HO64,HS64,HBW2,HZL,HB0,HBG,OO,OS'⟩:=Zq12 hm hsp hfin hbd ho64 hs64 hbw2 hzl hb0 hbg oo os';clear hm hsp hfin hbd ho64 hs64 hbw2 hzl hb0 hbg oo os'
     obtain⟨HNE,HBW⟩:=Zq2 hne hbw;clear hne hbw
     go_wp2_with fail
     obtain⟨wb,rfl⟩:∃wb:World,wb=wr:=⟨_,rfl⟩
     go_loopw [13,82] (fun s t wr=>∃(q:Nat),q≤l∧s=.int .i64 (q:Int)∧t=.int .i64 (q:Int)∧OwnI wr wa.heap.size (.slice oA l oc) l os∧OwnI wr wa.heap.size (.slice sA l sc) l ss∧Below wa.heap.size wa wr) (fun _ t _=>l-(intOf t).toNat)
     case atStart=>exact⟨0,Nat.zero_le _,rfl,rfl,OO.out,OS'.out,HBW.out⟩
     case round=>
      obtain⟨q,hq,rfl,rfl,oo,os',hbw⟩:=hrel
      by_cases hlt2:q<l
      ·have q0:(0:Int)≤(q:Int):=(by omega);have q1:(q:Int)<(l:Int):=(by omega)
       obtain⟨go,co,e1,hgo,hgol,hco,hfo⟩:=oo.form (by omega)
       obtain⟨gs,cs,e2,hgs,hgsl,hcs,hfs⟩:=os'.form (by omega)
       injection e1 with e1 _ e1';injection e2 with e2 _ e2';subst e1 e2 e1' e2';have hlo:=oo.len;have hls:=os'.len
       obtain⟨o,ho⟩:∃o,os[q]? = some o:=⟨_,List.getElem?_eq_getElem (by omega)⟩
       obtain⟨s,hs⟩:∃s,ss[q]? = some s:=⟨_,List.getElem?_eq_getElem (by omega)⟩
       have co1:=hco q o ho;have cs1:=hcs q s hs;have fo1:=hfo q;have fs1:=hfs q;have s1:(0:Int)<s:=HSP.out s (List.mem_of_getElem? hs);have hgg:go≠gs:=fun e=>by subst e;exact HNE.out go rfl rfl
       have cs2:(wr.setCell ⟨go,q,none⟩ (.int .i64 o)).cell? ⟨gs,q,none⟩=some (.int .i64 s):=(World.cell?_setCell_other _ _ _ _ (by intro e';simp only[Addr.mk.injEq]at e';exact hgg e'.1)).trans cs1;have k1:Kept [go] wr (wr.setCell ⟨go,q,none⟩ (.int .i64 o)):=(Kept.refl _ _).set (.inl (by simp)) _;have fs2:(wr.setCell ⟨go,q,none⟩ (.int .i64 o)).frozen? ⟨gs,q,none⟩=false:=(k1.froz (a:=⟨gs,q,none⟩) hgsl (by simp;exact fun e=>hgg e.symm)).trans fs1;have oo2:=OwnI.put oo q o;rw[set_same ho]at oo2
       have os2:=os'.keptS k1 (fun z hz hm=>by
        simp at hm;subst hm
        have:gs=z:=(by simpa[Value.ownBlock]using hz)
        exact hgg this.symm)
       have os3:=OwnI.put os2 q s;rw[set_same hs]at os3;have k2:Kept [gs] (wr.setCell ⟨go,q,none⟩ (.int .i64 o)) ((wr.setCell ⟨go,q,none⟩ (.int .i64 o)).setCell ⟨gs,q,none⟩ (.int .i64 s)):=(Kept.refl _ _).set (.inl (by simp)) _
       have oo3:=oo2.keptS k2 (fun z hz hm=>by
        simp at hm;subst hm
        have:go=z:=(by simpa[Value.ownBlock]using hz)
        exact hgg this)
       have hbw3:=Kept.below (Kept.below hbw k1 hbw.size (fun z hz=>by simp at hz;omega)) k2 (by have:=hbw.size;simpa[World.setCell]using this) (fun z hz=>by simp at hz;omega)
       obtain⟨OO,OS',HBW,HCO,HCS,HFO,HFS,HLO,HLS,HO,HS,K1⟩:=Zq12 oo os' hbw hco hcs hfo hfs hlo hls ho hs k1;clear oo os' hbw hco hcs hfo hfs hlo hls ho hs k1
       obtain⟨OO2,OS2,OS3,K2,OO3,HBW3,HGG⟩:=Zq7 oo2 os2 os3 k2 oo3 hbw3 hgg;clear oo2 os2 os3 k2 oo3 hbw3 hgg
       go_wp2_with fail
       exact⟨⟨q+1,by omega,by go_num,by go_num,OO3.out,OS3.out,HBW3.out⟩,by simp[intOf];omega⟩
      ·have q1:¬(q:Int)<(l:Int):=(by omega);obtain rfl:q=l:=(by omega)
       obtain⟨_,_,e1,hso⟩:=oo.sl (by omega) HO64.out
       obtain⟨_,_,e2,hss⟩:=os'.sl (by omega) HS64.out
       injection e1 with e1 _ e1';injection e2 with e2 _ e2';subst e1 e2 e1' e2';have hoc:=hso.cap;have hom:=hso.max;have hsc:=hss.cap;have hsm:=hss.max;have hfo:=oo.fresh;have hfs:=os'.fresh;have hbf:=bel_trans HBEL2.out hbw;rw[HFIN.out.1]at hso;rw[HFIN.out.2]at hss
       obtain⟨OO,OS',HSO,HSS,HFO,HFS,HBF,HBW⟩:=Zq8 oo os' hso hss hfo hfs hbf hbw;clear oo os' hso hss hfo hfs hbf hbw
       go_wp2_with fail;refine wp_region_later [] (by kernel_rfl) (by kernel_rfl) (by simp[go_sem, *]) ?_;intro _
       repeat go_big_quiet_step (fail)
       refine wpQuiet_nil ?_;rintro w2 ⟨u25,rfl⟩;have HU25:=Zq1 u25.h;have hso2:=HSO.out.ext HU25.out;have hss2:=HSS.out.ext HU25.out;have hbf2:=bel_trans HBF.out HU25.out;generalize u25.w=wz at *
       obtain⟨HSO2,HSS2,HBF2⟩:=Zq3 hso2 hss2 hbf2;clear hso2 hss2 hbf2
       go_wp2_with fail;go_ret2
       exact⟨_,_,_,_,_,_,rfl,HSO2.out,HSS2.out,HFO.out.mono (by omega),HFS.out.mono (by omega),HBF2.out⟩

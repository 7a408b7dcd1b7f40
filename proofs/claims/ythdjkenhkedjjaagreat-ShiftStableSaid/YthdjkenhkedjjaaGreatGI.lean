/- GI -/
import Derived.Test.YthdjkenhkedjjaaGreatGF
import Derived.Test.YthdjkenhkedjjaaGreatGH
import Derived.Test.YthdjkenhkedjjaaGreatMdp
import Derived.Test.YthdjkenhkedjjaaGreatGL
set_option maxRecDepth 100000
set_option maxHeartbeats 4000000
namespace Go.Proofs.YthdjkenhkedjjaaGreat
open Go.RowKit
def isC (p:GProg)(m:LI)(d:Bool):Bool:=modelB p m && (if d then minC (reductL p.rules m) m else decide (leastL (reductL p.rules m) p.n.toNat=m))
theorem is_any (p:GProg)(nA:OA)(nl nc:Nat)(sA:OA)(sl sc:Nat)(rA:OA)(rl rc:Nat)(mA:OA)(ml mc:Nat)(xA:OA)(xl xc:Nat)(m:LI)(d:Bool)(w:World)(hp:ProgIn w p nA nl nc sA sl sc rA rl rc mA ml mc)(hm:SlIs intR w xA xl xc m)(hc:checkE p m=0)(hl:d=true→xl≤12)(hd:d=false→defB p.n (reductL p.rules m)=true)(h0:0≤p.n):
  Calls Tryz.prog 80 #[.agg #[.int .i64 p.n,.slice nA nl nc,.slice sA sl sc,.slice rA rl rc,.slice mA ml mc],.slice xA xl xc,.bool d] w fun e w'=>e=.returned (.bool (isC p m d))∧Below w.heap.size w w':=by
 have cM:=fun W (hb:Below w.heap.size w W)=>models_ok p nA nl nc sA sl sc rA rl rc mA ml mc xA xl xc m W (hp.ext hb) (hm.ext hb) hc;have hfin:isC p m d=(modelB p m && (if d then minC (reductL p.rules m) m else decide (leastL (reductL p.rules m) p.n.toNat=m))):=rfl;generalize modelB p m=z at *
 cases z with
 |false=>
  obtain⟨HP,HM,HC,HL,HD,CM,HFIN⟩:=Zq7 hp hm hc hl hd cM hfin;clear hp hm hc hl hd cM hfin
  go_enter Tryz.func80,Tryz.ntmps80;go_wp2_with fail;go_fit (CM.out _ (bel_alloc _ _));rintro e w1 ⟨rfl,hb1⟩;have HB1:=Zq1 (bel_trans (bel_alloc _ _) hb1);clear hb1;go_wp2_with fail;go_ret
  exact⟨ret_bool (by rw[HFIN.out];rfl),HB1.out⟩
 |true=>
  rw[Bool.true_and]at hfin
  cases d with
  |true=>
   simp only[if_true]at hfin;have hl2:xl≤12:=hl rfl;clear hl
   obtain⟨HP,HM,HC,HD,CM,HFIN⟩:=Zq6 hp hm hc hd cM hfin;clear hp hm hc hd cM hfin
   go_enter Tryz.func80,Tryz.ntmps80;go_wp2_with fail;go_fit (CM.out _ (bel_alloc _ _));rintro e w1 ⟨rfl,hb1⟩;have hx1:=(Blk.new w 27 #[.int .i64 p.n,.slice nA nl nc,.slice sA sl sc,.slice rA rl rc,.slice mA ml mc]).bel hb1
   obtain⟨p0,p1,p2,p3,p4,p5⟩:=pcells hx1
   have HB1:=Zq1 (bel_trans (bel_alloc _ _) hb1);clear hb1;have HX1:=Zq1 hx1;clear hx1;go_wp2_with fail;go_fit (reduct_any p nA nl nc sA sl sc rA rl rc mA ml mc xA xl xc m _ (HP.out.ext HB1.out) (HM.out.ext HB1.out) HC.out);rintro e w2 ⟨gA,gl,gc,rfl,hg,hb2⟩;have HB2:=Zq1 (bel_trans HB1.out hb2);clear hb2 p0 p1 p2 p3 p4 p5;have HG:=Zq1 hg;clear hg;go_wp2_with fail;go_fit (minimal_any gA gl gc (reductL p.rules m) xA xl xc m _ HG.out (HM.out.ext HB2.out) hl2);rintro e w3 ⟨rfl,hb3⟩;have HB3:=Zq1 (bel_trans HB2.out hb3);clear hb3;go_wp2_with fail;go_ret
   exact⟨ret_bool (by rw[HFIN.out]),HB3.out⟩
  |false=>
   simp only[Bool.false_eq_true,if_false]at hfin
   obtain⟨N,hN⟩:∃N:Nat,p.n=(N:Int):=⟨p.n.toNat,by omega⟩
   have hdd:=hd rfl;have cL:=fun A l c W (h:SlIs ruleR W A l c (reductL p.rules m))=>least_any A l c (reductL p.rules m) N W h (by rw[← hN];exact hdd);rw[← hN]at cL;have hNt:p.n.toNat=N:=(by omega);rw[hNt]at hfin
   obtain⟨HP,HM,HC,HL,HD,CM,HFIN,CL,HDD,HN,HNT⟩:=Zq11 hp hm hc hl hd cM hfin cL hdd hN hNt;clear hp hm hc hl hd cM hfin cL hdd hN hNt
   go_enter Tryz.func80,Tryz.ntmps80;go_wp2_with fail;go_fit (CM.out _ (bel_alloc _ _));rintro e w1 ⟨rfl,hb1⟩;have hx1:=(Blk.new w 27 #[.int .i64 p.n,.slice nA nl nc,.slice sA sl sc,.slice rA rl rc,.slice mA ml mc]).bel hb1
   obtain⟨p0,p1,p2,p3,p4,p5⟩:=pcells hx1
   have HB1:=Zq1 (bel_trans (bel_alloc _ _) hb1);clear hb1;have HX1:=Zq1 hx1;clear hx1;go_wp2_with fail;go_fit (reduct_any p nA nl nc sA sl sc rA rl rc mA ml mc xA xl xc m _ (HP.out.ext HB1.out) (HM.out.ext HB1.out) HC.out);rintro e w2 ⟨gA,gl,gc,rfl,hg,hb2⟩;have hx2:=HX1.out.bel hb2;have HB2:=Zq1 (bel_trans HB1.out hb2);clear hb2 p0 p1 p2 p3 p4 p5
   obtain⟨p0,p1,p2,p3,p4,p5⟩:=pcells hx2
   obtain⟨HG,HX2⟩:=Zq2 hg hx2;clear hg hx2
   go_wp2_with fail;go_fit (CL.out gA gl gc _ HG.out);rintro e w3 ⟨lA,ll,lc,rfl,hls,hb3⟩;have HB3:=Zq1 (bel_trans HB2.out hb3);clear hb3 p0 p1 p2 p3 p4 p5;have cE:=sEqual_any lA ll lc xA xl xc (leastL (reductL p.rules m) N) m w3 hls (HM.out.ext HB3.out);generalize decide (leastL (reductL p.rules m) N=m)=y at *
   obtain⟨HLS,CE⟩:=Zq2 hls cE;clear hls cE
   go_wp2_with fail;go_fit CE.out;rintro e w4 ⟨rfl,hb4⟩;have HB4:=Zq1 (bel_trans HB3.out hb4);clear hb4;go_wp2_with fail;go_ret
   exact⟨ret_bool (by rw[HFIN.out]),HB4.out⟩
theorem satC_rule {r:GRule}{n:Int}(h:RuleIs r n)(m:LI):satC r m=satB r m:=by
 unfold satC satB;rw[bodyC_rule h,Bool.or_assoc]
theorem satCL_rules {rs:LG}{n:Int}(h:∀r∈rs,RuleIs r n)(m:LI):satCL rs m=satL rs m:=by
 unfold satCL satL;rw[Bool.eq_iff_iff,List.all_eq_true,List.all_eq_true]
 exact⟨fun hh r hr=>by rw[← satC_rule (h r hr)];exact hh r hr,fun hh r hr=>by rw[satC_rule (h r hr)];exact hh r hr⟩
theorem minC_rules {rs:LG}{n:Int}(h:∀r∈rs,RuleIs r n)(m:LI):minC rs m=minL rs m:=by
 unfold minC minL;rw[show satCL rs=satL rs from funext fun s=>satCL_rules h s]
 cases(subsL m).find? (satL rs) <;> rfl
structure SmallP (p:GProg):Prop where
 is:ProgIs p
 n0:0≤p.n
 n12:p.n≤12
 few:p.rules.length≤1000
theorem isC_is {p:GProg}(h:ProgIs p)(m:LI):isC p m (disB p)=isL p m:=by
 unfold isC isL;rw[minC_rules (n:=p.n) fun r hr=>ruleE_is (reductL_is m p.rules h.rules r hr).1]
theorem SmallP.red {p:GProg}(h:SmallP p)(m:LI)(hd:disB p=false):defB p.n (reductL p.rules m)=true:=by
 have hn:=h.n12;have h0:=h.n0;have hf:=h.few
 obtain⟨N,hN⟩:∃N:Nat,p.n=(N:Int):=⟨p.n.toNat,by omega⟩
 have hl:=reductL_len2 m 12 p.rules fun r hr=>by
  have:=inc_lenN h0 (h.is.rules r hr).head
  omega
 refine defB_of h0 (by omega) ?_ fun r hr=>?_
 ·have:(12+1)*p.rules.length≤13*1000:=Nat.mul_le_mul (by omega) hf
  omega
 ·have hD:=red_def h.is hd m N hN r hr;rw[← hN]at hD;unfold defR;have h1:=hD.pos;rw[decide_eq_true (reductL_is m p.rules h.is.rules r hr).1,hD.plain,decide_eq_true hD.one,List.all_eq_true.2 fun x hx=>by have:=h1 x hx;simp;omega]
  rfl
theorem SmallP.check {p:GProg}(h:SmallP p)(hv:validE p=0){s:LI}(hs:s.Sublist (atomsL p.n.toNat)):checkE p s=0:=
 check_of hv (by have:=(atoms_sub p.n.toNat s).1 hs;rwa [show ((p.n.toNat:Nat):Int)=p.n from by have:=h.n0;omega]at this)
open Go.RowKit

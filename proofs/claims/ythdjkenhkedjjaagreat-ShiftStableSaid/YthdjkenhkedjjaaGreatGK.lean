/- GK -/
import Derived.Test.YthdjkenhkedjjaaGreatGSd
import Derived.Test.YthdjkenhkedjjaaGreatGJ
set_option maxRecDepth 100000
set_option maxHeartbeats 2000000
namespace Go.Proofs.YthdjkenhkedjjaaGreat
open Go.RowKit
def smallB (p:GProg):Bool:=fewB p && decide (p.n≤6) && decide (validE p=0)
theorem small_is {p:GProg}(h:smallB p=true):fewB p=true∧p.n≤6∧validE p=0:=by
 unfold smallB at h;simp only[Bool.and_eq_true,decide_eq_true_eq]at h
 exact⟨h.1.1,h.1.2,h.2⟩
theorem small_P {p:GProg}(h:smallB p=true):SmallP p:=by
 obtain⟨h1,h2,h3⟩:=small_is h
 exact⟨validE_is h3,valid_n h3,by omega,by have:=(few_head h1).1;omega⟩
theorem small_any (p:GProg)(nA:OA)(nl nc:Nat)(sA:OA)(sl sc:Nat)(rA:OA)(rl rc:Nat)(mA:OA)(ml mc:Nat)(w:World)(hp:ProgIn w p nA nl nc sA sl sc rA rl rc mA ml mc):
  Calls Tryz.prog 42 #[.agg #[.int .i64 p.n,.slice nA nl nc,.slice sA sl sc,.slice rA rl rc,.slice mA ml mc]] w fun e w'=>e=.returned (.bool (smallB p))∧Below w.heap.size w w':=by
 have cF:=fun W (hb:Below w.heap.size w W)=>few_any p nA nl nc sA sl sc rA rl rc mA ml mc W (hp.ext hb);have cV:=fun W (hb:Below w.heap.size w W)=>valid_any p nA nl nc sA sl sc rA rl rc mA ml mc W (hp.ext hb);have hs:smallB p=(fewB p && decide (p.n≤6) && decide (validE p=0)):=rfl;generalize smallB p=sm at *
 cases hf:fewB p with
 |false=>
  rw[hf]at cF hs;simp only[Bool.false_and]at hs;subst hs
  obtain⟨HF,CF,CV,HP⟩:=Zq4 hf cF cV hp;clear hf cF cV hp
  go_enter Tryz.func42,Tryz.ntmps42;go_wp2_with fail;go_fit (CF.out _ (bel_alloc _ _));rintro e w1 ⟨rfl,hb1⟩;have HB1:=Zq1 (bel_trans (bel_alloc _ _) hb1);clear hb1;go_wp2_with fail;go_ret
  exact⟨rfl,HB1.out⟩
 |true=>
  rw[hf]at cF hs
  by_cases h6:p.n≤6
  ·have d6:decide (p.n≤6)=true:=decide_eq_true h6;rw[d6]at hs;simp only[Bool.true_and]at hs;generalize validE p=v at *
   by_cases hv:v=0
   ·subst hv;simp only[decide_true]at hs;subst hs
    obtain⟨HF,CF,CV,HP⟩:=Zq4 hf cF cV hp;clear hf cF cV hp
    go_enter Tryz.func42,Tryz.ntmps42;go_wp2_with fail;go_fit (CF.out _ (bel_alloc _ _));rintro e w1 ⟨rfl,hb1⟩;have hx1:=(Blk.new w 27 #[.int .i64 p.n,.slice nA nl nc,.slice sA sl sc,.slice rA rl rc,.slice mA ml mc]).bel hb1
    obtain⟨p0,p1,p2,p3,p4,p5⟩:=pcells hx1
    have HB1:=Zq1 (bel_trans (bel_alloc _ _) hb1);clear hb1;have HX1:=Zq1 hx1;clear hx1;go_wp2_with fail;go_fit (CV.out _ HB1.out);rintro e w2 ⟨rfl,hb2⟩;have HB2:=Zq1 (bel_trans HB1.out hb2);clear hb2;go_wp2_with fail;go_ret
    exact⟨rfl,HB2.out⟩
   ·have q1:(v==0)=false:=(by simpa using hv);simp only[decide_eq_false hv]at hs;subst hs
    obtain⟨HF,CF,CV,HP,HV⟩:=Zq5 hf cF cV hp hv;clear hf cF cV hp hv
    go_enter Tryz.func42,Tryz.ntmps42;go_wp2_with fail;go_fit (CF.out _ (bel_alloc _ _));rintro e w1 ⟨rfl,hb1⟩;have hx1:=(Blk.new w 27 #[.int .i64 p.n,.slice nA nl nc,.slice sA sl sc,.slice rA rl rc,.slice mA ml mc]).bel hb1
    obtain⟨p0,p1,p2,p3,p4,p5⟩:=pcells hx1
    have HB1:=Zq1 (bel_trans (bel_alloc _ _) hb1);clear hb1;have HX1:=Zq1 hx1;clear hx1;go_wp2_with fail;go_fit (CV.out _ HB1.out);rintro e w2 ⟨rfl,hb2⟩;have HB2:=Zq1 (bel_trans HB1.out hb2);clear hb2;go_wp2_with fail;go_ret
    exact⟨rfl,HB2.out⟩
  ·have d6:decide (p.n≤6)=false:=decide_eq_false h6;rw[d6]at hs;simp only[Bool.true_and,Bool.false_and]at hs;subst hs
   obtain⟨HF,CF,CV,HP⟩:=Zq4 hf cF cV hp;clear hf cF cV hp
   go_enter Tryz.func42,Tryz.ntmps42;go_wp2_with fail;go_fit (CF.out _ (bel_alloc _ _));rintro e w1 ⟨rfl,hb1⟩;have hx1:=(Blk.new w 27 #[.int .i64 p.n,.slice nA nl nc,.slice sA sl sc,.slice rA rl rc,.slice mA ml mc]).bel hb1
   obtain⟨p0,p1,p2,p3,p4,p5⟩:=pcells hx1
   have HB1:=Zq1 (bel_trans (bel_alloc _ _) hb1);clear hb1;have HX1:=Zq1 hx1;clear hx1;go_wp2_with fail;go_ret
   exact⟨rfl,HB1.out⟩
open Go.RowKit
theorem any_take' {α:Type}{l:List α}{k:Nat}{x:α}{f:α→Bool}(h:l[k]? = some x):(l.take (k+1)).any f=((l.take k).any f || f x):=by rw[take_snoc' h,List.any_append];simp
theorem hasM_any (aA:OA)(al ac:Nat)(bA:OA)(bl bc:Nat)(xs:List (LI))(m:LI)(w:World)(ha:SlIs (slR intR) w aA al ac xs)(hb:SlIs intR w bA bl bc m):
  Calls Tryz.prog 37 #[.slice aA al ac,.slice bA bl bc] w fun e w'=>e=.returned (.bool (decide (m∈xs)))∧Below w.heap.size w w':=by
 have hl:=ha.cap;have hm:=ha.max;have la:=Zq1 ha.len
 obtain⟨HA,HB⟩:=Zq2 ha hb;clear ha hb
 go_enter Tryz.func37,Tryz.ntmps37;go_wp2;go_loopw [9] (fun i wr=>∃k:Nat,k≤al∧i=.int .i64 k∧Below w.heap.size w wr∧(xs.take k).any (fun x=>decide (x=m))=false) (fun i _=>al-(intOf i).toNat)
 case atStart=>exact⟨0,Nat.zero_le _,rfl,Below.refl _ _,by simp⟩
 case round=>
  obtain⟨k,hk,rfl,hbw,hs⟩:=hrel
  by_cases hlt:k<al
  ·obtain⟨x,hx,-⟩:=HA.out.drop hlt
   obtain⟨b,off,hA,hl',hc,rfl,_,f0,g1⟩:=(HA.out.ext hbw).set hx
   have i0:(0:Int)≤(k:Int):=(by omega);have i1:(k:Int)<(al:Int):=(by omega);have hst:=any_take' (f:=fun x=>decide (x=m)) hx;have cI:=lawInts_any hA hl' hc bA bl bc x m wr g1 (HB.out.ext hbw)
   by_cases he:x=m
   ·rw[decide_eq_true he]at cI;have hmem:m∈xs:=he ▸ List.mem_of_getElem? hx
    obtain⟨HX,HS,HBW,G1,HST,CI,HE,HMEM⟩:=Zq8 hx hs hbw g1 hst cI he hmem;clear hx hs hbw g1 hst cI he hmem
    go_wp2_with fail;go_fit CI.out;rintro e w1 ⟨rfl,hb1⟩;have HB1:=Zq1 (bel_trans HBW.out hb1);clear hb1;go_wp2_with fail;go_ret
    exact⟨ret_bool (decide_eq_true HMEM.out).symm,HB1.out⟩
   ·rw[decide_eq_false he]at cI;rw[hs,decide_eq_false he]at hst
    obtain⟨HX,HS,HBW,G1,HST,CI,HE⟩:=Zq7 hx hs hbw g1 hst cI he;clear hx hs hbw g1 hst cI he
    go_wp2_with fail;go_fit CI.out;rintro e w1 ⟨rfl,hb1⟩;have HB1:=Zq1 (bel_trans HBW.out hb1);clear hb1;go_wp2_with fail;go_roundw;exact⟨k+1,by omega,by go_num,HB1.out,HST.out⟩;simp[intOf];omega
  ·have hnm:decide (m∈xs)=false:=by
    rw[List.take_of_length_le (by have:=la.out;omega)]at hs;rw[decide_eq_false_iff_not];intro hm;rw[List.any_eq_false]at hs;exact hs m hm (by simp)
   have HBW:=Zq1 hbw;clear hbw
   obtain⟨HS,HNM⟩:=Zq2 hs hnm;clear hs hnm
   go_wp2;go_ret
   exact⟨ret_bool HNM.out.symm,HBW.out⟩
open Go.RowKit
open Go.RowKit

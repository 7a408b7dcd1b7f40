/- GSd -/
import Derived.Deep.QuietTactic
import Derived.BigQuiet
import Derived.Test.YthdjkenhkedjjaaGreatGSc
set_option maxRecDepth 100000
set_option maxHeartbeats 8000000
namespace Go.Proofs.YthdjkenhkedjjaaGreat
open Go.RowKit Go.Shelf
theorem refSame_true (p:GProg)(nA:OA)(nl nc:Nat)(sA:OA)(sl sc:Nat)(rA:OA)(rl rc:Nat)(mA:OA)(ml mc:Nat)(nA2:OA)(nl2 nc2:Nat)(sA2:OA)(sl2 sc2:Nat)(rA2:OA)(rl2 rc2:Nat)(mA2:OA)(ml2 mc2:Nat)(w:World)(hp:ProgIn w p nA nl nc sA sl sc rA rl rc mA ml mc)(hq:ProgIn w p nA2 nl2 nc2 sA2 sl2 sc2 rA2 rl2 rc2 mA2 ml2 mc2)(hmn:p.min=[]):
  Calls Tryz.prog 47 #[.agg #[.int .i64 p.n,.slice nA nl nc,.slice sA sl sc,.slice rA rl rc,.slice mA ml mc],.agg #[.int .i64 p.n,.slice nA2 nl2 nc2,.slice sA2 sl2 sc2,.slice rA2 rl2 rc2,.slice mA2 ml2 mc2]] w fun e w'=>e=.returned (.bool true)∧Below w.heap.size w w':=by
 have l1:nl2=nl:=by rw[hp.names.len,hq.names.len]
 have l2:rl2=rl:=by rw[hp.rules.len,hq.rules.len]
 have l3:ml=0:=by rw[hp.min.len,hmn];rfl
 have l4:ml2=0:=by rw[hq.min.len,hmn];rfl
 subst l1 l2 l3 l4;have k1:=hp.names.cap;have k2:=hp.names.max;have k3:=hq.names.cap;have k4:=hq.names.max;have k5:=hp.rules.cap;have k6:=hp.rules.max;have k7:=hq.rules.cap;have k8:=hq.rules.max;have k9:=hp.min.cap;have k10:=hq.min.cap;have cI:=fun W (hb:Below w.heap.size w W)=>refInts_any sA sl sc sA2 sl2 sc2 p.shown p.shown W (hp.shown.ext hb) (hq.shown.ext hb);simp only[decide_true]at cI;have bP:Blk ((w.alloc (.cells #[.int .i64 p.n,.slice nA nl2 nc,.slice sA sl sc,.slice rA rl2 rc,.slice mA 0 mc] 27)).alloc (.cells #[.int .i64 p.n,.slice nA2 nl2 nc2,.slice sA2 sl2 sc2,.slice rA2 rl2 rc2,.slice mA2 0 mc2] 27)) w.heap.size 27 #[.int .i64 p.n,.slice nA nl2 nc,.slice sA sl sc,.slice rA rl2 rc,.slice mA 0 mc]:=(blk_new rfl _ _).alloc _;have bQ:Blk ((w.alloc (.cells #[.int .i64 p.n,.slice nA nl2 nc,.slice sA sl sc,.slice rA rl2 rc,.slice mA 0 mc] 27)).alloc (.cells #[.int .i64 p.n,.slice nA2 nl2 nc2,.slice sA2 sl2 sc2,.slice rA2 rl2 rc2,.slice mA2 0 mc2] 27)) (w.heap.size+1) 27 #[.int .i64 p.n,.slice nA2 nl2 nc2,.slice sA2 sl2 sc2,.slice rA2 rl2 rc2,.slice mA2 0 mc2]:=blk_new (by simp) _ _;have bW:Below w.heap.size w ((w.alloc (.cells #[.int .i64 p.n,.slice nA nl2 nc,.slice sA sl sc,.slice rA rl2 rc,.slice mA 0 mc] 27)).alloc (.cells #[.int .i64 p.n,.slice nA2 nl2 nc2,.slice sA2 sl2 sc2,.slice rA2 rl2 rc2,.slice mA2 0 mc2] 27)):=bel_trans (bel_alloc _ _) (bel_alloc _ _);have hN:decide (p.n=p.n)=true:=(by simp)
 obtain⟨HP,HQ,CI,BP,BQ,BW,HN,HMN⟩:=Zq8 hp hq cI bP bQ bW hN hmn;clear hp hq cI bP bQ bW hN hmn
 go_enter Tryz.func47,Tryz.ntmps47;go_wp2_with fail;go_fit (CI.out _ BW.out);rintro e w1 ⟨rfl,hb1⟩;have bP1:=BP.out.bel hb1;have bQ1:=BQ.out.bel hb1;have bw1:=bel_trans BW.out hb1
 obtain⟨p0,p1,p2,p3,p4,p5⟩:=pcells bP1
 obtain⟨q0,q1,q2,q3,q4,q5⟩:=pcells bQ1
 clear hb1
 obtain⟨BP1,BQ1,BW1⟩:=Zq3 bP1 bQ1 bw1;clear bP1 bQ1 bw1
 go_wp2_with fail;clear p0 p1 p2 p3 p4 p5 q0 q1 q2 q3 q4 q5;go_loopw [5] (fun t wr=>∃i:Nat,i≤nl2∧t=.int .i64 (i:Int)∧Below w1.heap.size w1 wr) (fun t _=>nl2-(intOf t).toNat)
 case atStart=>exact⟨0,Nat.zero_le _,rfl,Below.refl _ _⟩
 case round=>
  obtain⟨i,hi,rfl,hb⟩:=hrel
  obtain⟨wo,rfl⟩:∃wo:World,wo=wr:=⟨_,rfl⟩
  have hbp:=BP1.out.bel hb;have hbq:=BQ1.out.bel hb;have hbw:=bel_trans BW1.out hb
  obtain⟨p0,p1,p2,p3,p4,p5⟩:=pcells hbp
  obtain⟨q0,q1,q2,q3,q4,q5⟩:=pcells hbq
  by_cases hlt:i<nl2
  ·obtain⟨s,hs,-⟩:=HP.out.names.drop hlt
   obtain⟨b1,o1,rfl,_,x1,-⟩:=(HP.out.names.ext hbw).str hs
   obtain⟨b2,o2,rfl,_,x2,-⟩:=(HQ.out.names.ext hbw).str hs
   have i0:(0:Int)≤(i:Int):=(by omega);have i1:(i:Int)<(nl2:Int):=(by omega)
   obtain⟨HB,HBP,HBQ,HBW,HS⟩:=Zq5 hb hbp hbq hbw hs;clear hb hbp hbq hbw hs
   go_wp2_with fail;go_quiet (fail);go_wp2_with fail;go_roundw;exact⟨i+1,by omega,by go_num,below_drewN HB.out _⟩;simp[intOf];omega
  ·have hil:i=nl2:=(by omega)
   obtain⟨HB,HBP,HBQ,HBW,HIL⟩:=Zq5 hb hbp hbq hbw hil;clear hb hbp hbq hbw hil
   go_wp2_with fail;clear p0 p1 p2 p3 p4 p5 q0 q1 q2 q3 q4 q5
   obtain⟨w2,rfl⟩:∃w2:World,w2=wo:=⟨_,rfl⟩
   go_loopw [6] (fun t wr=>∃j:Nat,j≤rl2∧t=.int .i64 (j:Int)∧Below w1.heap.size w1 wr) (fun t _=>rl2-(intOf t).toNat)
   case atStart=>exact⟨0,Nat.zero_le _,rfl,HB.out⟩
   case round=>
    obtain⟨j,hj,rfl,hb⟩:=hrel
    obtain⟨wq,rfl⟩:∃wq:World,wq=wr:=⟨_,rfl⟩
    have hbp:=BP1.out.bel hb;have hbq:=BQ1.out.bel hb;have hbw:=bel_trans BW1.out hb
    obtain⟨p0,p1,p2,p3,p4,p5⟩:=pcells hbp
    obtain⟨q0,q1,q2,q3,q4,q5⟩:=pcells hbq
    by_cases hlj:j<rl2
    ·obtain⟨r,hr,-⟩:=HP.out.rules.drop hlj
     obtain⟨xb,xo,hA,hl,hc,bA,bl,bc,wA,wl,wc,rfl,hbl2,x0,x1,x2,x3,x4,x5,g1,g2,g3,g4⟩:=HP.out.rules.rule hr
     obtain⟨yb,yo,hA2,hl2,hc2,bA2,bl2,bc2,wA2,wl2,wc2,rfl,hbl3,y0,y1,y2,y3,y4,y5,h1,h2,h3,h4⟩:=HQ.out.rules.rule hr
     have j0:(0:Int)≤(j:Int):=(by omega);have j1:(j:Int)<(rl2:Int):=(by omega);have cS:=fun W (hb:Below w.heap.size w W)=>sameRule_any r r hA hl hc bA bl bc wA wl wc hA2 hl2 hc2 bA2 bl2 bc2 wA2 wl2 wc2 W (RuleIn.ext ⟨g1,g2,g3,g4⟩ hb) (RuleIn.ext ⟨h1,h2,h3,h4⟩ hb);simp only[decide_true]at cS
     obtain⟨HB,HBP,HBQ,HBW,HR,CS,G1,G2,G3,G4,H1,H2⟩:=Zq12 hb hbp hbq hbw hr cS g1 g2 g3 g4 h1 h2;clear hb hbp hbq hbw hr cS g1 g2 g3 g4 h1 h2
     obtain⟨H3,H4,X0,X1,X2,X3,X4,X5,Y0,Y1,Y2,Y3⟩:=Zq12 h3 h4 x0 x1 x2 x3 x4 x5 y0 y1 y2 y3;clear h3 h4 x0 x1 x2 x3 x4 x5 y0 y1 y2 y3
     obtain⟨Y4,Y5⟩:=Zq2 y4 y5;clear y4 y5
     go_wp2_with fail;clear p0 p1 p2 p3 p4 p5 q0 q1 q2 q3 q4 q5;refine wp_region_inv (fun listed a' w'=>∃(b0 b1 b2 b3 b4 b5 b6 b7 b8 b9 b10 b11:Bool) (u73 u74 u75 u76 u77 u78 u79 u80 u81 u82 u83 u84:Value),listed=#[b0,b1,b2,b3,b4,b5,b6,b7,b8,b9,b10,b11]∧a'={ tmps:=#[.agg #[.int .i64 p.n,.slice nA nl2 nc,.slice sA sl sc,.slice (some ⟨xb,xo,none⟩) rl2 rc,.slice mA 0 mc],.agg #[.int .i64 p.n,.slice nA2 nl2 nc2,.slice sA2 sl2 sc2,.slice (some ⟨yb,yo,none⟩) rl2 rc2,.slice mA2 0 mc2],.pointer (some ⟨w.heap.size,0,none⟩),.pointer (some ⟨w.heap.size+1,0,none⟩),u4,.int .i64 (i:Int),.int .i64 (j:Int),undef,.pointer (some ⟨w.heap.size,0,none⟩),.int .i64 p.n,.pointer (some ⟨w.heap.size+1,0,none⟩),.int .i64 p.n,.bool false,.bool false,.pointer (some ⟨w.heap.size,1,none⟩),.slice nA nl2 nc,.int .i64 (nl2:Int),.pointer (some ⟨w.heap.size+1,1,none⟩),.slice nA2 nl2 nc2,.int .i64 (nl2:Int),.bool false,.bool false,.bool false,.pointer (some ⟨w.heap.size,2,none⟩),.slice sA sl sc,.pointer (some ⟨w.heap.size+1,2,none⟩),.slice sA2 sl2 sc2,.bool true,.bool false,.bool false,.bool false,.pointer (some ⟨w.heap.size,3,none⟩),.slice (some ⟨xb,xo,none⟩) rl2 rc,.int .i64 (rl2:Int),.pointer (some ⟨w.heap.size+1,3,none⟩),.slice (some ⟨yb,yo,none⟩) rl2 rc2,.int .i64 (rl2:Int),.bool false,.bool false,.bool false,.pointer (some ⟨w.heap.size,4,none⟩),.slice mA 0 mc,.int .i64 0,.pointer (some ⟨w.heap.size+1,4,none⟩),.slice mA2 0 mc2,.int .i64 0,.bool false,.bool false,.int .i64 (i:Int),.pointer (some ⟨w.heap.size,1,none⟩),.slice nA nl2 nc,.int .i64 (nl2:Int),.bool false,u53,u54,u55,u56,u57,u58,u59,u60,u61,u62,u63,u64,u65,.int .i64 (j:Int),.pointer (some ⟨w.heap.size,3,none⟩),.slice (some ⟨xb,xo,none⟩) rl2 rc,.int .i64 (rl2:Int),.bool true,u71,u72,u73,u74,u75,u76,u77,u78,u79,u80,u81,u82,u83,u84,undef,undef,undef,undef,undef,undef,undef,undef,undef,undef,undef,undef,undef,undef,undef,undef,undef,undef,undef,undef,undef,undef,undef,undef,undef,undef,undef,undef,undef,undef,undef,undef,undef,undef,undef,undef,undef,undef,undef,undef,undef,undef,undef,undef,undef,undef,undef,undef,undef,undef,undef,undef],defers:=[] }∧(Below wq.heap.size wq w')∧(b0=true→u73=.pointer (some ⟨w.heap.size,3,none⟩))∧(b1=true→u74=.slice (some ⟨xb,xo,none⟩) rl2 rc)∧(b2=true→u75=.int .i64 (j:Int))∧(b3=true→u76=.pointer (some ⟨xb,xo+j*6,none⟩))∧(b4=true→u77=.agg #[.bool r.choice,.slice hA hl hc,.bool r.sum,.int .i64 r.bound,.slice bA bl bc,.slice wA wl wc])∧(b5=true→u78=.pointer (some ⟨w.heap.size+1,3,none⟩))∧(b6=true→u79=.slice (some ⟨yb,yo,none⟩) rl2 rc2)∧(b7=true→u80=.int .i64 (j:Int))∧(b8=true→u81=.pointer (some ⟨yb,yo+j*6,none⟩))∧(b9=true→u82=.agg #[.bool r.choice,.slice hA2 hl2 hc2,.bool r.sum,.int .i64 r.bound,.slice bA2 bl2 bc2,.slice wA2 wl2 wc2])∧(b10=true→u83=.bool true)∧(b11=true→u84=.bool false)∧(b11=true→b10=true)) (by kernel_rfl) ?start ?step ?_
     case start=>exact⟨false,false,false,false,false,false,false,false,false,false,false,false,_,_,_,_,_,_,_,_,_,_,_,_,rfl,rfl,(Below.refl _ _).drew,(by simp),(by simp),(by simp),(by simp),(by simp),(by simp),(by simp),(by simp),(by simp),(by simp),(by simp),(by simp),(by simp)⟩
     case step=>
      rintro listed a' w' i o ⟨b0,b1,b2,b3,b4,b5,b6,b7,b8,b9,b10,b11,u73,u74,u75,u76,u77,u78,u79,u80,u81,u82,u83,u84,rfl,rfl,hB,f0,f1,f2,f3,f4,f5,f6,f7,f8,f9,f10,f11,c11⟩ ho hli hd K hK;have Zqx:=fun i h=>hd ⟨i,.data⟩ h rfl
      match i,ho,hli,hd with
      |0,ho,hli,hd=>obtain⟨rfl,rfl⟩:_∧b0=false:=Zqj ho hli;have HH:=Zq1 c11;clear c11;go_simp;exact hK _ _ ⟨_,_,_,_,_,_,_,_,_,_,_,_,_,_,_,_,_,_,_,_,_,_,_,_,rfl,rfl,hB,(fun _=>rfl),f1,f2,f3,f4,f5,f6,f7,f8,f9,f10,f11,HH.out⟩
      |1,ho,hli,hd=>obtain⟨rfl,rfl⟩:_∧b1=false:=Zqj ho hli;obtain rfl:b0=true:=Zqx 0 (by simp);obtain rfl:=f0 rfl;have hm:w'.cell? ⟨w.heap.size,3,none⟩=some (.slice (some ⟨xb,xo,none⟩) rl2 rc):=(HBP.out.bel hB).cell 3;have HH:=Zq1 c11;clear c11;go_simp;exact hK _ _ ⟨_,_,_,_,_,_,_,_,_,_,_,_,_,_,_,_,_,_,_,_,_,_,_,_,rfl,rfl,hB,f0,(fun _=>rfl),f2,f3,f4,f5,f6,f7,f8,f9,f10,f11,HH.out⟩
      |2,ho,hli,hd=>obtain⟨rfl,rfl⟩:_∧b2=false:=Zqj ho hli;have HH:=Zq1 c11;clear c11;go_simp;exact hK _ _ ⟨_,_,_,_,_,_,_,_,_,_,_,_,_,_,_,_,_,_,_,_,_,_,_,_,rfl,rfl,hB,f0,f1,(fun _=>rfl),f3,f4,f5,f6,f7,f8,f9,f10,f11,HH.out⟩
      |3,ho,hli,hd=>obtain⟨rfl,rfl⟩:_∧b3=false:=Zqj ho hli;obtain rfl:b1=true:=Zqx 1 (by simp);obtain rfl:b2=true:=Zqx 2 (by simp);obtain rfl:=f1 rfl;obtain rfl:=f2 rfl;have HH:=Zq1 c11;clear c11;go_simp;exact hK _ _ ⟨_,_,_,_,_,_,_,_,_,_,_,_,_,_,_,_,_,_,_,_,_,_,_,_,rfl,rfl,hB,f0,f1,f2,(fun _=>rfl),f4,f5,f6,f7,f8,f9,f10,f11,HH.out⟩
      |4,ho,hli,hd=>obtain⟨rfl,rfl⟩:_∧b4=false:=Zqj ho hli;obtain rfl:b3=true:=Zqx 3 (by simp);obtain rfl:=f3 rfl;have hbx:=bel_trans HBW.out hB;have m0:=(hbx.cell (World.block_lt_of_cell? _ _ X0.out)).trans X0.out;have m1:=(hbx.cell (World.block_lt_of_cell? _ _ X1.out)).trans X1.out;have m2:=(hbx.cell (World.block_lt_of_cell? _ _ X2.out)).trans X2.out;have m3:=(hbx.cell (World.block_lt_of_cell? _ _ X3.out)).trans X3.out;have m4:=(hbx.cell (World.block_lt_of_cell? _ _ X4.out)).trans X4.out;have m5:=(hbx.cell (World.block_lt_of_cell? _ _ X5.out)).trans X5.out;clear hbx;have HH:=Zq1 c11;clear c11;go_simp;exact hK _ _ ⟨_,_,_,_,_,_,_,_,_,_,_,_,_,_,_,_,_,_,_,_,_,_,_,_,rfl,rfl,hB,f0,f1,f2,f3,(fun _=>rfl),f5,f6,f7,f8,f9,f10,f11,HH.out⟩
      |5,ho,hli,hd=>obtain⟨rfl,rfl⟩:_∧b5=false:=Zqj ho hli;have HH:=Zq1 c11;clear c11;go_simp;exact hK _ _ ⟨_,_,_,_,_,_,_,_,_,_,_,_,_,_,_,_,_,_,_,_,_,_,_,_,rfl,rfl,hB,f0,f1,f2,f3,f4,(fun _=>rfl),f6,f7,f8,f9,f10,f11,HH.out⟩
      |6,ho,hli,hd=>obtain⟨rfl,rfl⟩:_∧b6=false:=Zqj ho hli;obtain rfl:b5=true:=Zqx 5 (by simp);obtain rfl:=f5 rfl;have hm:w'.cell? ⟨w.heap.size+1,3,none⟩=some (.slice (some ⟨yb,yo,none⟩) rl2 rc2):=(HBQ.out.bel hB).cell 3;have HH:=Zq1 c11;clear c11;go_simp;exact hK _ _ ⟨_,_,_,_,_,_,_,_,_,_,_,_,_,_,_,_,_,_,_,_,_,_,_,_,rfl,rfl,hB,f0,f1,f2,f3,f4,f5,(fun _=>rfl),f7,f8,f9,f10,f11,HH.out⟩
      |7,ho,hli,hd=>obtain⟨rfl,rfl⟩:_∧b7=false:=Zqj ho hli;have HH:=Zq1 c11;clear c11;go_simp;exact hK _ _ ⟨_,_,_,_,_,_,_,_,_,_,_,_,_,_,_,_,_,_,_,_,_,_,_,_,rfl,rfl,hB,f0,f1,f2,f3,f4,f5,f6,(fun _=>rfl),f8,f9,f10,f11,HH.out⟩
      |8,ho,hli,hd=>obtain⟨rfl,rfl⟩:_∧b8=false:=Zqj ho hli;obtain rfl:b6=true:=Zqx 6 (by simp);obtain rfl:b7=true:=Zqx 7 (by simp);obtain rfl:=f6 rfl;obtain rfl:=f7 rfl;have HH:=Zq1 c11;clear c11;go_simp;exact hK _ _ ⟨_,_,_,_,_,_,_,_,_,_,_,_,_,_,_,_,_,_,_,_,_,_,_,_,rfl,rfl,hB,f0,f1,f2,f3,f4,f5,f6,f7,(fun _=>rfl),f9,f10,f11,HH.out⟩
      |9,ho,hli,hd=>obtain⟨rfl,rfl⟩:_∧b9=false:=Zqj ho hli;obtain rfl:b8=true:=Zqx 8 (by simp);obtain rfl:=f8 rfl;have hbx:=bel_trans HBW.out hB;have m0:=(hbx.cell (World.block_lt_of_cell? _ _ Y0.out)).trans Y0.out;have m1:=(hbx.cell (World.block_lt_of_cell? _ _ Y1.out)).trans Y1.out;have m2:=(hbx.cell (World.block_lt_of_cell? _ _ Y2.out)).trans Y2.out;have m3:=(hbx.cell (World.block_lt_of_cell? _ _ Y3.out)).trans Y3.out;have m4:=(hbx.cell (World.block_lt_of_cell? _ _ Y4.out)).trans Y4.out;have m5:=(hbx.cell (World.block_lt_of_cell? _ _ Y5.out)).trans Y5.out;clear hbx;have HH:=Zq1 c11;clear c11;go_simp;exact hK _ _ ⟨_,_,_,_,_,_,_,_,_,_,_,_,_,_,_,_,_,_,_,_,_,_,_,_,rfl,rfl,hB,f0,f1,f2,f3,f4,f5,f6,f7,f8,(fun _=>rfl),f10,f11,HH.out⟩
      |10,ho,hli,hd=>
       obtain⟨rfl,rfl⟩:_∧b10=false:=Zqj ho hli;obtain rfl:b4=true:=Zqx 4 (by simp);obtain rfl:b9=true:=Zqx 9 (by simp);obtain rfl:=f4 rfl;obtain rfl:=f9 rfl
       have e11:b11=false:=by
        cases hh:b11 with
        |false=>rfl
        |true=>have:=c11 hh;cases this
       subst e11;have cZ:=CS.out w' (bel_trans HBW.out hB);have HH:=Zq1 c11;clear c11;go_simp;refine cZ.mono ?_;rintro e v ⟨rfl,hb⟩;exact hK _ _ ⟨_,_,_,_,_,_,_,_,_,_,_,_,_,_,_,_,_,_,_,_,_,_,_,_,rfl,rfl,(bel_trans hB hb),f0,f1,f2,f3,f4,f5,f6,f7,f8,f9,(fun _=>rfl),f11,(fun e=>by cases e)⟩
      |11,ho,hli,hd=>obtain⟨rfl,rfl⟩:_∧b11=false:=Zqj ho hli;obtain rfl:b10=true:=Zqx 10 (by simp);obtain rfl:=f10 rfl;have HH:=Zq1 c11;clear c11;go_simp;exact hK _ _ ⟨_,_,_,_,_,_,_,_,_,_,_,_,_,_,_,_,_,_,_,_,_,_,_,_,rfl,rfl,hB,f0,f1,f2,f3,f4,f5,f6,f7,f8,f9,f10,(fun _=>rfl),(fun _=>rfl)⟩
      |i+12,ho,hli,hd=>simp at ho
     rintro listed a' w' ⟨b0,b1,b2,b3,b4,b5,b6,b7,b8,b9,b10,b11,u73,u74,u75,u76,u77,u78,u79,u80,u81,u82,u83,u84,rfl,rfl,hB,f0,f1,f2,f3,f4,f5,f6,f7,f8,f9,f10,f11,c11⟩ hr;obtain rfl:b0=true:=Zqn hr 0 rfl;obtain rfl:b1=true:=Zqn hr 1 rfl;obtain rfl:b2=true:=Zqn hr 2 rfl;obtain rfl:b3=true:=Zqn hr 3 rfl;obtain rfl:b4=true:=Zqn hr 4 rfl;obtain rfl:b5=true:=Zqn hr 5 rfl;obtain rfl:b6=true:=Zqn hr 6 rfl;obtain rfl:b7=true:=Zqn hr 7 rfl;obtain rfl:b8=true:=Zqn hr 8 rfl;obtain rfl:b9=true:=Zqn hr 9 rfl;obtain rfl:b10=true:=Zqn hr 10 rfl;obtain rfl:b11=true:=Zqn hr 11 rfl;clear hr;obtain rfl:=f11 rfl;clear f0 f1 f2 f3 f4 f5 f6 f7 f8 f9 f10 c11;have hB2:=bel_trans HB.out hB;have HB2:=Zq1 hB2;clear hB2;go_wp2_with fail;go_roundw;exact⟨j+1,by omega,by go_num,HB2.out⟩;simp[intOf];omega
    ·have hjl:j=rl2:=(by omega);have hz:¬(0:Int)<0:=(by omega)
     obtain⟨HB,HBP,HBQ,HBW,HJL⟩:=Zq5 hb hbp hbq hbw hjl;clear hb hbp hbq hbw hjl
     go_wp2_with fail;clear p0 p1 p2 p3 p4 p5 q0 q1 q2 q3 q4 q5
     obtain⟨w3,rfl⟩:∃w3:World,w3=wq:=⟨_,rfl⟩
     go_loopw [7] (fun t wr=>t=.int .i64 0∧Below w1.heap.size w1 wr) (fun t _=>0)
     case atStart=>exact⟨rfl,HB.out⟩
     case round=>
      obtain⟨rfl,hb⟩:=hrel
      have hbp:=BP1.out.bel hb;have hbq:=BQ1.out.bel hb;have hbw:=bel_trans BW1.out hb
      obtain⟨p0,p1,p2,p3,p4,p5⟩:=pcells hbp
      obtain⟨q0,q1,q2,q3,q4,q5⟩:=pcells hbq
      obtain⟨HB,HBP,HBQ,HBW⟩:=Zq4 hb hbp hbq hbw;clear hb hbp hbq hbw
      go_wp2_with fail;go_ret
      exact⟨rfl,HBW.out⟩
open Go.RowKit
theorem with20_any (rA:OA)(rl rc:Nat)(rs:LG)(n:Nat)(w:World)(h:SlIs ruleR w rA rl rc rs)(hn:n≤4000):
  Calls Tryz.prog 29 #[.int .i64 (n:Int),.slice rA rl rc] w fun e w'=>∃(nA:OA) (nl nc:Nat),e=.returned (.agg #[.int .i64 (n:Int),.slice nA nl nc,.slice none 0 0,.slice rA rl rc,.slice none 0 0])∧ProgIn w' (withP (n:Int) rs) nA nl nc none 0 0 rA rl rc none 0 0∧Below w.heap.size w w'∧(∀ad,nA=some ad→w.heap.size≤ad.block):=by
 have hmk:=make_str n (by omega);have n0:(0:Int)≤(n:Int):=(by omega);have n1:(n:Int)≤4000:=(by omega);have H:=Zq1 h;clear h;go_enter Tryz.func29,Tryz.ntmps29;go_wp2_with fail;change bodyPost _ _ _ _ _ (allocs w (wthO n rA rl rc w.heap.size));refine bodyPost_ret (results_cell_row rfl _ _ (w.heap.size+0) 27 _ (0,0) _ rfl (allocs_heap (wthO n rA rl rc w.heap.size) w 0 _ rfl) Tryz.underlying27 rfl (by kernel_rfl)) rfl ?_
 refine⟨some ⟨w.heap.size+1,0,none⟩,n,n,rfl,⟨by constructor <;> simp[withP] <;> omega,?_,SlIs.nil _ _,H.out.ext (allocs_bel _ _),SlIs.nil _ _⟩,allocs_bel _ _,fun ad e=>by cases e;simp⟩
 refine sl_of_cells (allocs_blk (os:=wthO n rA rl rc w.heap.size) 1 rfl) (by simp[withP]) (by omega) (fun i x hx=>?_)
 have hi:i<n:=by
  have:=(List.getElem?_eq_some_iff.1 hx).1
  simpa[withP]using this
 have hx':x=ByteArray.empty:=by
  simp only[withP,Int.toNat_natCast]at hx;rw[List.getElem?_replicate,if_pos hi]at hx
  exact(Option.some.inj hx).symm
 subst hx'
 refine⟨[.string ByteArray.empty],⟨rfl,by simp[maxLen]⟩,fun j u hu=>?_⟩
 match j,hu with
 |0,hu=>have hu':Value.string ByteArray.empty=u:=Option.some.inj hu;subst hu';exact valCells_get n (fun _=>.string ByteArray.empty) (i*1+0) (by omega)
 |j+1,hu=>simp at hu
open Go.RowKit
theorem getD_set_same (t:Array Value)(d:Nat)(v:Value)(h:d<t.size):(t.setIfInBounds d v).getD d undef=v:=by
 rw[Array.getD_eq_getD_getElem?,Array.getElem?_setIfInBounds_self_of_lt h];rfl
theorem getD_set_ne (t:Array Value)(d s:Nat)(v:Value)(h:d≠s):(t.setIfInBounds d v).getD s undef=t.getD s undef:=by
 rw[Array.getD_eq_getD_getElem?,Array.getD_eq_getD_getElem?,Array.getElem?_setIfInBounds_ne h]
def MonoOp (P:Program)(ops:Array Oper)(dsts:LN)(spec:Nat→Value→World→Prop)(a:Act)(w:World)(Q:Exit→Act→World→Prop)(i:Nat)(o:Oper):Prop:=
 ∀(b:Act) (W:World),Below w.heap.size w W→(∀s,s∉dsts→b.tmps.getD s undef=a.tmps.getD s undef) →
  (∀j,(o.after.toList.any fun e=>Region.binds .any e && e.on==j)=true→∀d,dsts[j]? = some d→spec j (b.tmps.getD d undef) W) →
  Region.wanted o (yielded ops b.tmps)=true∧∀K:Act→World→Prop,(∀v W',Below W.heap.size W W'→spec i v W'→K (b.put o.dst v) W')→o.wp P b W K Q
def MonoAll (P:Program)(ops:Array Oper)(dsts:LN)(spec:Nat→Value→World→Prop)(a:Act)(w:World)(Q:Exit→Act→World→Prop):Nat→List Oper→Prop
 |_,[]=>True
 |k,o::t=>MonoOp P ops dsts spec a w Q k o∧MonoAll P ops dsts spec a w Q (k+1) t
theorem MonoAll.get {P:Program}{ops:Array Oper}{dsts:LN}{spec:Nat→Value→World→Prop}{a:Act}{w:World}{Q:Exit→Act→World→Prop}:∀{l:List Oper}{k i:Nat}{o:Oper},MonoAll P ops dsts spec a w Q k l→l[i]? = some o→MonoOp P ops dsts spec a w Q (k+i) o
 |[],_,_,_,_,h=>by simp at h
 |x::t,k,0,o,h,ho=>by simp at ho;subst ho;exact h.1
 |x::t,k,i+1,o,h,ho=>by
  have:=MonoAll.get (i:=i) h.2 (by simpa using ho)
  rwa [show k+1+i=k+(i+1) by omega]at this
theorem wp_region_mono {P:Program}{ops:Array Oper}{Q:Exit→Act→World→Prop}{id:Nat}{a:Act}{w:World}(dsts:LN)(spec:Nat→Value→World→Prop)(hm:P.follows .mixedOrders=true)
  (hd:ops.toList.map (·.dst)=dsts.map some) (hnd:dsts.Nodup) (hsz:∀d∈dsts,d<a.tmps.size) (hord:∀(i:Nat) (o:Oper),ops[i]? = some o→∀e∈o.after,e.on<i)
  (hx:∀i v A B,spec i v A→Below A.heap.size A B→spec i v B) (hop:MonoAll P ops dsts spec a w Q 0 ops.toList)
  (hend:∀b W,b.defers=a.defers→Below w.heap.size w W→(∀s,s∉dsts→b.tmps.getD s undef=a.tmps.getD s undef)→(∀i d,dsts[i]? = some d→spec i (b.tmps.getD d undef) W)→Q .normal b W):
  (Code.region id ops true).wp P Q a w:=by
 have hds:∀{i:Nat} {o:Oper},ops[i]? = some o→∃d,o.dst=some d∧dsts[i]? = some d:=fun {i o} ho=>by
  have h1:(ops.toList.map (·.dst))[i]? = some o.dst:=by rw[List.getElem?_map,Array.getElem?_toList,ho];rfl
  rw[hd,List.getElem?_map]at h1
  cases hq:dsts[i]? with
  |none=>rw[hq]at h1;simp at h1
  |some d=>rw[hq]at h1;simp at h1;exact⟨d,h1.symm,rfl⟩
 refine wp_region_inv (fun listed b W=>b.defers=a.defers∧b.tmps.size=a.tmps.size∧listed.size=ops.size∧Below w.heap.size w W∧(∀s,s∉dsts→b.tmps.getD s undef=a.tmps.getD s undef)∧∀i d,dsts[i]? = some d→listed.getD i false=true→spec i (b.tmps.getD d undef) W) hm
  ⟨rfl,rfl,by simp,(Below.refl _ _).drew,fun _ _=>rfl,fun i d _ h=>by
   rw[Array.getD_eq_getD_getElem?,Array.getElem?_replicate]at h
   split at h <;> simp at h⟩ ?_ ?_
 ·rintro listed b W i o ⟨h1,h2,h3,h4,h5,h6⟩ ho hli hdep K hK
  obtain⟨d,hdo,hdi⟩:=hds ho
  have hop':=hop.get (i:=i) (o:=o) (by rw[Array.getElem?_toList];exact ho);rw[Nat.zero_add]at hop'
  obtain⟨hw,hk⟩:=hop' b W h4 h5 (fun j hj d' hd'=>by
   rw[List.any_eq_true]at hj
   obtain⟨e,hn,hj⟩:=hj
   rw[Bool.and_eq_true,beq_iff_eq]at hj
   have:=hdep e (Array.mem_toList_iff.1 hn) hj.1
   rw[hj.2]at this;exact h6 j d' hd' this)
  rw[if_pos hw];refine hk K fun v W' hb hs=>hK _ _ ?_;rw[hdo];have hdm:d∈dsts:=List.mem_of_getElem? hdi;have hds2:=hsz d hdm
  refine⟨h1,by show (b.tmps.setIfInBounds d v).size=_;simp[h2],by simp[h3],bel_trans h4 hb,fun s hs'=>?_,fun j d' hd' hlj=>?_⟩
  ·show (b.tmps.setIfInBounds d v).getD s undef=_;rw[getD_set_ne _ _ _ _ (fun e=>hs' (by rw[← e];exact hdm))];exact h5 s hs'
  ·show spec j ((b.tmps.setIfInBounds d v).getD d' undef) W'
   by_cases e:j=i
   ·subst e;rw[hdi]at hd';cases hd';rw[getD_set_same _ _ _ (by rw[h2];exact hds2)];exact hs
   ·have hne:d≠d':=fun e2=>by
     subst e2
     obtain⟨p1,p2⟩:=List.getElem?_eq_some_iff.1 hdi
     obtain⟨q1,q2⟩:=List.getElem?_eq_some_iff.1 hd'
     have hp:=List.pairwise_iff_getElem.1 hnd;rcases Nat.lt_or_gt_of_ne e with hlt | hlt
     ·exact hp j i q1 p1 hlt (q2.trans p2.symm)
     ·exact hp i j p1 q1 hlt (p2.trans q2.symm)
    rw[getD_set_ne _ _ _ _ hne];refine hx _ _ _ _ (h6 j d' hd' ?_) hb;rw[Array.getD_eq_getD_getElem?,Array.getElem?_setIfInBounds_ne (fun q=>e q.symm)]at hlj;rw[Array.getD_eq_getD_getElem?];exact hlj
 ·rintro listed b W ⟨h1,h2,h3,h4,h5,h6⟩ hr
  have hall:∀i,listed.getD i true=true:=fun i=>by
   induction i using Nat.strongRecOn with
   |ind i ih=>
    cases ho:ops[i]? with
    |none=>
     have:ops.size≤i:=(by simpa using ho)
     rw[Array.getD_eq_getD_getElem?,Array.getElem?_eq_none (by omega)];rfl
    |some o=>
     refine ready_nil hr ho fun e he _=>?_;have hlt:=hord i o ho e he;have hil:i<ops.size:=(Array.getElem?_eq_some_iff.1 ho).1
     have:=ih e.on hlt
     rw[Array.getD_eq_getD_getElem?,Array.getElem?_eq_getElem (by omega)]at this ⊢
     simpa using this
  refine hend b W h1 h4 h5 fun i d hdi=>h6 i d hdi ?_;have hl:ops.toList.length=dsts.length:=by have:=congrArg List.length hd;simpa using this
  have hil:i<listed.size:=by have:=(List.getElem?_eq_some_iff.1 hdi).1;rw[h3];simp at hl;omega
  have:=hall i
  rw[Array.getD_eq_getD_getElem?,Array.getElem?_eq_getElem hil]at this ⊢
  simpa using this
theorem yields_of {ops:Array Oper}{t:Array Value}{j d:Nat}{x:Bool}(h:(ops[j]?).bind (·.dst)=some d)(hv:t.getD d undef=.bool x):yielded ops t j=some x:=by
 unfold yielded;rw[h];rw[Array.getD_eq_getD_getElem?]at hv
 cases ht:t[d]? with
 |none=>rw[ht]at hv;simp[undef]at hv
 |some v=>rw[ht]at hv;simp at hv;subst hv;simp[ht]
open Go.RowKit
theorem ints_at22 {W:World}{g:Nat}(xs:LI){l:Nat}(h:Blk W g 3 (xs.map (Value.int .i64)).toArray)(hl:l=xs.length)(hs:l≤1000)(hx:∀x∈xs,I64 x):Ints W (.slice (some ⟨g,0,none⟩) l l) xs:=
 ints_of (sl_ints xs h hl (by omega) hx)
def wkA:GProg:=withP 4 [⟨false,[1,2],false,0,[3,-4],[]⟩]
def wkAL:LG:=[⟨false,[1],false,0,[-2,3,-4],[]⟩,⟨false,[2],false,0,[-1,3,-4],[]⟩]
def wkB:GProg:=withP 5 [⟨false,[1,2,3],true,2,[4,-5],[1,1]⟩]
def wkBL:LG:=[⟨false,[6],true,2,[4,-5],[1,1]⟩,⟨false,[1],false,0,[-2,-3,6],[]⟩,⟨false,[2],false,0,[-1,-3,6],[]⟩,⟨false,[3],false,0,[-1,-2,6],[]⟩]
def wkC:GProg:=withP 2 [⟨false,[1,2],false,0,[],[]⟩,⟨false,[1],false,0,[2],[]⟩,⟨false,[2],false,0,[1],[]⟩]
theorem wkA_v:validE wkA=0:=by kernel_rfl
theorem wkB_v:validE wkB=0:=by kernel_rfl
theorem wkC_v:validE wkC=0:=by kernel_rfl
theorem wkA_f:freeB wkA=true:=lev_free (validE_is wkA_v) (lv:=fun a=>if a=1 then 1 else if a=2 then 2 else 0) ⟨by decide,by decide⟩
theorem wkB_f:freeB wkB=true:=lev_free (validE_is wkB_v) (lv:=fun a=>if a=1 then 1 else if a=2 then 2 else if a=3 then 3 else 0) ⟨by decide,by decide⟩
theorem wkC_f:freeB wkC=false:=cyc_free (validE_is wkC_v) (r1:=⟨false,[1,2],false,0,[],[]⟩) (r2:=⟨false,[1],false,0,[2],[]⟩) (r3:=⟨false,[2],false,0,[1],[]⟩) (by simp[wkC,withP]) (by simp[wkC,withP]) (by simp[wkC,withP]) (by decide) (a:=1) (b:=2) (by simp) (by simp) (by decide) (by decide) (by decide) (by simp) (by simp) (by simp) (by simp)
theorem wkA_s:sfP wkA=withP 4 wkAL:=by kernel_rfl
theorem wkB_s:sfP wkB=withP 6 wkBL:=by kernel_rfl
theorem wkC_e:shiftE (freeB wkC) wkC=220:=by unfold shiftE;rw[if_neg (by rw[wkC_v];simp),wkC_f];rfl
theorem wkA_o:SfOk wkA:=⟨by decide,by decide⟩
theorem wkB_o:SfOk wkB:=⟨by decide,by decide⟩
theorem wkB_i:incB wkB.n [1,4]=true:=(by decide)
theorem wkB_l:liftL wkB [1,4]=[1,4,6]:=by kernel_rfl
def RuleV (W:World)(v:Value)(r:GRule):Prop:=∃h b t,v=.agg #[.bool r.choice,h,.bool r.sum,.int .i64 r.bound,b,t]∧Ints W h r.head∧Ints W b r.body∧Ints W t r.w
theorem RuleV.ext {W W':World}{v:Value}{r:GRule}(h:RuleV W v r)(hb:Below W.heap.size W W'):RuleV W' v r:=by
 obtain⟨a,b,t,e,h1,h2,h3⟩:=h
 exact⟨a,b,t,e,(slR intR).ext h1 hb,(slR intR).ext h2 hb,(slR intR).ext h3 hb⟩
def RowV (W:World)(v:Value)(xs:LG):Prop:=∃A l c,v=.slice A l c∧SlIs ruleR W A l c xs
theorem RowV.ext {W W':World}{v:Value}{xs:LG}(h:RowV W v xs)(hb:Below W.heap.size W W'):RowV W' v xs:=by
 obtain⟨A,l,c,e,h1⟩:=h
 exact⟨A,l,c,e,h1.ext hb⟩
def ProgV (W:World)(v:Value)(z:Int)(xs:LG):Prop:=∃(nA:OA)(nl nc:Nat)(rA:OA)(rl rc:Nat),v=.agg #[.int .i64 (withP z xs).n,.slice nA nl nc,.slice none 0 0,.slice rA rl rc,.slice none 0 0]∧ProgIn W (withP z xs) nA nl nc none 0 0 rA rl rc none 0 0
theorem ProgV.ext {W W':World}{v:Value}{z:Int}{xs:LG}(h:ProgV W v z xs)(hb:Below W.heap.size W W'):ProgV W' v z xs:=by
 obtain⟨a,b,c,d,e,f,g,h1⟩:=h
 exact⟨a,b,c,d,e,f,g,h1.ext hb⟩
def LastP (p:Value→World→Prop):Prop:=∀v A B,p v A→Below A.heap.size A B→p v B
theorem stab_c (c:Value):LastP fun v _=>v=c:=fun _ _ _ h _=>h
theorem stab_ints (xs:LI):LastP fun v W=>Ints W v xs:=fun _ _ _ h hb=>(slR intR).ext h hb
theorem stab_rule (r:GRule):LastP fun v W=>RuleV W v r:=fun _ _ _ h hb=>h.ext hb
theorem stab_row (xs:LG):LastP fun v W=>RowV W v xs:=fun _ _ _ h hb=>h.ext hb
theorem stab_prog (z:Int)(xs:LG):LastP fun v W=>ProgV W v z xs:=fun _ _ _ h hb=>h.ext hb
theorem spec_ext {S:List (Value→World→Prop)}(h:∀p∈S,LastP p)(i:Nat)(v:Value)(A B:World)(hs:S.getD i (fun _ _=>True) v A)(hb:Below A.heap.size A B):S.getD i (fun _ _=>True) v B:=by
 rw[List.getD_eq_getElem?_getD]at hs ⊢
 cases hq:S[i]? with
 |none=>trivial
 |some p=>rw[hq]at hs;exact h p (List.mem_of_getElem? hq) v A B hs hb
theorem ordB_ok (ops:Array Oper)(h:((List.range ops.size).all fun i=>((ops[i]?).map fun o=>o.after.all fun e=>decide (e.on<i)).getD true)=true):∀(i:Nat)(o:Oper),ops[i]? = some o→∀e∈o.after,e.on<i:=fun i o ho e he=>by
 have h1:=List.all_eq_true.1 h i (List.mem_range.2 (Array.getElem?_eq_some_iff.1 ho).1);rw[ho]at h1;simp only[Option.map_some,Option.getD_some]at h1;exact of_decide_eq_true (Array.all_eq_true_iff_forall_mem.1 h1 e he)
theorem withI (rA:OA)(rl rc:Nat)(rs:LG)(n:Nat)(z:Int)(hz:z=(n:Int))(w:World)(h:SlIs ruleR w rA rl rc rs)(hn:n≤4000):
  Calls Tryz.prog 29 #[.int .i64 z,.slice rA rl rc] w fun e w'=>∃(nA:OA) (nl nc:Nat),e=.returned (.agg #[.int .i64 (withP z rs).n,.slice nA nl nc,.slice none 0 0,.slice rA rl rc,.slice none 0 0])∧ProgIn w' (withP z rs) nA nl nc none 0 0 rA rl rc none 0 0∧Below w.heap.size w w':=by
 subst hz
 exact(with20_any rA rl rc rs n w h hn).mono fun e w' ⟨a,b,c,h1,h2,h3,_⟩=>⟨a,b,c,h1,h2,h3⟩
theorem awake22_any (w:World):Calls Tryz.prog 22 #[] w fun e w'=>e=.returned (.bool true)∧Below w.heap.size w w':=by
 have hr1:SlIs ruleR (((w.alloc (.cells #[.int .i64 1,.int .i64 2] 3)).alloc (.cells #[.int .i64 3,.int .i64 (-4)] 3)).alloc (.cells #[.bool false,.slice (some ⟨w.heap.size,0,none⟩) 2 2,.bool false,.int .i64 0,.slice (some ⟨w.heap.size+1,0,none⟩) 2 2,.slice none 0 0] 42)) (some ⟨w.heap.size+1+1,0,none⟩) 1 1 wkA.rules:=sl_rulesAt (cs:=[.bool false,.slice (some ⟨w.heap.size,0,none⟩) 2 2,.bool false,.int .i64 0,.slice (some ⟨w.heap.size+1,0,none⟩) 2 2,.slice none 0 0]) (blk_new (by simp) _ _)
  ⟨rfl,i2 _ _ _ _ (((blk_new rfl _ _).alloc _).alloc _) (by simp[I64]) (by simp[I64]),rfl,rfl,by simp[I64],i2 _ _ _ _ ((blk_new (by simp) _ _).alloc _) (by simp[I64]) (by simp[I64]),ints_nil _,trivial⟩ rfl (by simp)
 have hb1:Below w.heap.size w (((w.alloc (.cells #[.int .i64 1,.int .i64 2] 3)).alloc (.cells #[.int .i64 3,.int .i64 (-4)] 3)).alloc (.cells #[.bool false,.slice (some ⟨w.heap.size,0,none⟩) 2 2,.bool false,.int .i64 0,.slice (some ⟨w.heap.size+1,0,none⟩) 2 2,.slice none 0 0] 42)):=bel_trans (bel_trans (bel_alloc _ _) (bel_alloc _ _)) (bel_alloc _ _);have cW:=withI _ 1 1 wkA.rules 4 4 rfl (((w.alloc (.cells #[.int .i64 1,.int .i64 2] 3)).alloc (.cells #[.int .i64 3,.int .i64 (-4)] 3)).alloc (.cells #[.bool false,.slice (some ⟨w.heap.size,0,none⟩) 2 2,.bool false,.int .i64 0,.slice (some ⟨w.heap.size+1,0,none⟩) 2 2,.slice none 0 0] 42)) hr1 (by omega)
 obtain⟨HR1,HB1,CW⟩:=Zq3 hr1 hb1 cW;clear hr1 hb1 cW
 go_enter Tryz.func22,Tryz.ntmps22;go_wp2_with fail;go_fit CW.out;rintro e w1 ⟨nA,nl,nc,rfl,hpA,hb⟩;have hw1:=bel_trans HB1.out hb;clear hb HR1 CW;have cS:=shift_any wkA nA nl nc none 0 0 _ 1 1 none 0 0 w1 hpA wkA_v wkA_f wkA_o;rw[wkA_s]at cS
 obtain⟨HW1,HPA,CS⟩:=Zq3 hw1 hpA cS;clear hw1 hpA cS
 go_wp2_with fail;go_fit CS.out;rintro e w2 ⟨aA,aB,aC,aD,aE,aF,aG,aH,aI,aJ,aK,aL,rfl,hA,hb⟩;have hw2:=bel_trans HW1.out hb;clear hb CS HPA
 have hr3:SlIs ruleR (((((w2.alloc (.cells #[.int .i64 (withP 4 wkAL).n,.slice aA aB aC,.slice aD aE aF,.slice aG aH aI,.slice aJ aK aL] 27)).alloc (.cells #[.int .i64 1,.int .i64 2,.int .i64 3] 3)).alloc (.cells #[.int .i64 4,.int .i64 (-5)] 3)).alloc (.cells #[.int .i64 1,.int .i64 1] 3)).alloc (.cells #[.bool false,.slice (some ⟨w2.heap.size+1,0,none⟩) 3 3,.bool true,.int .i64 2,.slice (some ⟨w2.heap.size+1+1,0,none⟩) 2 2,.slice (some ⟨w2.heap.size+1+1+1,0,none⟩) 2 2] 42)) (some ⟨w2.heap.size+1+1+1+1,0,none⟩) 1 1 wkB.rules:=sl_rulesAt (cs:=[.bool false,.slice (some ⟨w2.heap.size+1,0,none⟩) 3 3,.bool true,.int .i64 2,.slice (some ⟨w2.heap.size+1+1,0,none⟩) 2 2,.slice (some ⟨w2.heap.size+1+1+1,0,none⟩) 2 2]) (blk_new (by simp) _ _)
  ⟨rfl,ints_at22 [1,2,3] ((((blk_new (by simp) _ _).alloc _).alloc _).alloc _) rfl (by simp) (by simp[I64]),rfl,rfl,by simp[I64],i2 _ _ _ _ (((blk_new (by simp) _ _).alloc _).alloc _) (by simp[I64]) (by simp[I64]),i2 _ _ _ _ ((blk_new (by simp) _ _).alloc _) (by simp[I64]) (by simp[I64]),trivial⟩ rfl (by simp)
 have hb3:Below w2.heap.size w2 (((((w2.alloc (.cells #[.int .i64 (withP 4 wkAL).n,.slice aA aB aC,.slice aD aE aF,.slice aG aH aI,.slice aJ aK aL] 27)).alloc (.cells #[.int .i64 1,.int .i64 2,.int .i64 3] 3)).alloc (.cells #[.int .i64 4,.int .i64 (-5)] 3)).alloc (.cells #[.int .i64 1,.int .i64 1] 3)).alloc (.cells #[.bool false,.slice (some ⟨w2.heap.size+1,0,none⟩) 3 3,.bool true,.int .i64 2,.slice (some ⟨w2.heap.size+1+1,0,none⟩) 2 2,.slice (some ⟨w2.heap.size+1+1+1,0,none⟩) 2 2] 42)):=bel_trans (bel_trans (bel_trans (bel_trans (bel_alloc _ _) (bel_alloc _ _)) (bel_alloc _ _)) (bel_alloc _ _)) (bel_alloc _ _);have bA3:Blk (((((w2.alloc (.cells #[.int .i64 (withP 4 wkAL).n,.slice aA aB aC,.slice aD aE aF,.slice aG aH aI,.slice aJ aK aL] 27)).alloc (.cells #[.int .i64 1,.int .i64 2,.int .i64 3] 3)).alloc (.cells #[.int .i64 4,.int .i64 (-5)] 3)).alloc (.cells #[.int .i64 1,.int .i64 1] 3)).alloc (.cells #[.bool false,.slice (some ⟨w2.heap.size+1,0,none⟩) 3 3,.bool true,.int .i64 2,.slice (some ⟨w2.heap.size+1+1,0,none⟩) 2 2,.slice (some ⟨w2.heap.size+1+1+1,0,none⟩) 2 2] 42)) w2.heap.size 27 #[.int .i64 (withP 4 wkAL).n,.slice aA aB aC,.slice aD aE aF,.slice aG aH aI,.slice aJ aK aL]:=((((blk_new rfl _ _).alloc _).alloc _).alloc _).alloc _;have cW:=withI _ 1 1 wkB.rules 5 5 rfl (((((w2.alloc (.cells #[.int .i64 (withP 4 wkAL).n,.slice aA aB aC,.slice aD aE aF,.slice aG aH aI,.slice aJ aK aL] 27)).alloc (.cells #[.int .i64 1,.int .i64 2,.int .i64 3] 3)).alloc (.cells #[.int .i64 4,.int .i64 (-5)] 3)).alloc (.cells #[.int .i64 1,.int .i64 1] 3)).alloc (.cells #[.bool false,.slice (some ⟨w2.heap.size+1,0,none⟩) 3 3,.bool true,.int .i64 2,.slice (some ⟨w2.heap.size+1+1,0,none⟩) 2 2,.slice (some ⟨w2.heap.size+1+1+1,0,none⟩) 2 2] 42)) hr3 (by omega)
 obtain⟨HA,HW2,HR3,HB3,BA3,CW⟩:=Zq6 hA hw2 hr3 hb3 bA3 cW;clear hA hw2 hr3 hb3 bA3 cW
 go_wp2_with fail;go_fit CW.out;rintro e w3 ⟨nB,nl2,nc2,rfl,hpB,hb⟩;have bA4:=BA3.out.bel hb;have hw3:=bel_trans HW2.out (bel_trans HB3.out hb);have hA4:=HA.out.ext (bel_trans HB3.out hb);clear hb CW HR3 HB3 BA3 HA HW2;have bA5:=bA4.alloc (.cells #[.int .i64 (withP 5 wkB.rules).n,.slice nB nl2 nc2,.slice none 0 0,.slice (some ⟨w2.heap.size+1+1+1+1,0,none⟩) 1 1,.slice none 0 0] 27);have bB5:Blk (w3.alloc (.cells #[.int .i64 (withP 5 wkB.rules).n,.slice nB nl2 nc2,.slice none 0 0,.slice (some ⟨w2.heap.size+1+1+1+1,0,none⟩) 1 1,.slice none 0 0] 27)) w3.heap.size 27 #[.int .i64 (withP 5 wkB.rules).n,.slice nB nl2 nc2,.slice none 0 0,.slice (some ⟨w2.heap.size+1+1+1+1,0,none⟩) 1 1,.slice none 0 0]:=blk_new rfl _ _;have hw5:=bel_trans hw3 (bel_alloc w3 (.cells #[.int .i64 (withP 5 wkB.rules).n,.slice nB nl2 nc2,.slice none 0 0,.slice (some ⟨w2.heap.size+1+1+1+1,0,none⟩) 1 1,.slice none 0 0] 27));have hA5:=hA4.ext (bel_alloc w3 (.cells #[.int .i64 (withP 5 wkB.rules).n,.slice nB nl2 nc2,.slice none 0 0,.slice (some ⟨w2.heap.size+1+1+1+1,0,none⟩) 1 1,.slice none 0 0] 27));have hpB5:=hpB.ext (bel_alloc w3 (.cells #[.int .i64 (withP 5 wkB.rules).n,.slice nB nl2 nc2,.slice none 0 0,.slice (some ⟨w2.heap.size+1+1+1+1,0,none⟩) 1 1,.slice none 0 0] 27));clear bA4 hw3 hA4 hpB
 obtain⟨p0,p1,p2,p3,p4,p5⟩:=pcells bB5
 have cS:=shift_any wkB nB nl2 nc2 none 0 0 (some ⟨w2.heap.size+1+1+1+1,0,none⟩) 1 1 none 0 0 _ hpB5 wkB_v wkB_f wkB_o;rw[wkB_s]at cS
 obtain⟨BA5,BB5,HW5,HA5,HPB5,CS⟩:=Zq6 bA5 bB5 hw5 hA5 hpB5 cS;clear bA5 bB5 hw5 hA5 hpB5 cS
 go_wp2_with fail;clear p0 p1 p2 p3 p4 p5;generalize w3.alloc (.cells #[.int .i64 (withP 5 wkB.rules).n,.slice nB nl2 nc2,.slice none 0 0,.slice (some ⟨w2.heap.size+1+1+1+1,0,none⟩) 1 1,.slice none 0 0] 27)=W5 at *;go_fit CS.out;rintro e w6 ⟨dA,dB,dC,dD,dE,dF,dG,dH,dI,dJ,dK,dL,rfl,hD,hb⟩;have hb6:=bel_trans hb (bel_alloc w6 (.cells #[.int .i64 (withP 6 wkBL).n,.slice dA dB dC,.slice dD dE dF,.slice dG dH dI,.slice dJ dK dL] 27));have bA6:=BA5.out.bel hb6;have bB6:=BB5.out.bel hb6;have hw6:=bel_trans HW5.out hb6;have hA6:=HA5.out.ext hb6;have hpB6:=HPB5.out.ext hb6;have hD6:=hD.ext (bel_alloc w6 (.cells #[.int .i64 (withP 6 wkBL).n,.slice dA dB dC,.slice dD dE dF,.slice dG dH dI,.slice dJ dK dL] 27));have bD6:Blk (w6.alloc (.cells #[.int .i64 (withP 6 wkBL).n,.slice dA dB dC,.slice dD dE dF,.slice dG dH dI,.slice dJ dK dL] 27)) w6.heap.size 27 #[.int .i64 (withP 6 wkBL).n,.slice dA dB dC,.slice dD dE dF,.slice dG dH dI,.slice dJ dK dL]:=blk_new rfl _ _;clear hb hb6 hD CS BA5 BB5 HW5 HA5 HPB5
 obtain⟨p0,p1,p2,p3,p4,p5⟩:=pcells bB6
 have hb7:=bel_alloc (w6.alloc (.cells #[.int .i64 (withP 6 wkBL).n,.slice dA dB dC,.slice dD dE dF,.slice dG dH dI,.slice dJ dK dL] 27)) (.cells #[.int .i64 1,.int .i64 4] 3);have cL:=lift_any wkB nB nl2 nc2 none 0 0 (some ⟨w2.heap.size+1+1+1+1,0,none⟩) 1 1 none 0 0 (some ⟨w6.heap.size+1,0,none⟩) 2 2 [1,4] _ (hpB6.ext hb7) (sl_ints [1,4] (blk_new (by simp) _ _) rfl (by omega) (by simp[I64])) wkB_v wkB_f wkB_o wkB_i;rw[wkB_l]at cL;have hbl:=hb7
 obtain⟨BA6,BB6,HW6,HA6,HPB6,HD6,BD6,CL,HB7⟩:=Zq9 bA6 bB6 hw6 hA6 hpB6 hD6 bD6 cL hb7;clear bA6 bB6 hw6 hA6 hpB6 hD6 bD6 cL hb7
 go_wp2_with fail;clear p0 p1 p2 p3 p4 p5;go_fit CL.out;rintro e w8 ⟨lA,ll,lc,rfl,hL,hb⟩;have hb8:=bel_trans hbl hb;have bA8:=BA6.out.bel hb8;have hw8:=bel_trans HW6.out hb8;have hA8:=HA6.out.ext hb8;have hD8:=HD6.out.ext hb8;have bD8:=BD6.out.bel hb8
 obtain⟨lz,hlz⟩:∃lz,lz=ll:=⟨_,rfl⟩
 clear hb hb8 hbl CL BA6 BB6 HW6 HA6 HPB6 HD6 BD6 HB7
 have hr9:SlIs ruleR (((((((w8.alloc (.cells #[.int .i64 1,.int .i64 2] 3)).alloc (.cells #[.int .i64 1] 3)).alloc (.cells #[.int .i64 2] 3)).alloc (.cells #[.int .i64 2] 3)).alloc (.cells #[.int .i64 1] 3))).alloc (.cells #[.bool false,.slice (some ⟨w8.heap.size,0,none⟩) 2 2,.bool false,.int .i64 0,.slice none 0 0,.slice none 0 0,.bool false,.slice (some ⟨w8.heap.size+1,0,none⟩) 1 1,.bool false,.int .i64 0,.slice (some ⟨w8.heap.size+1+1,0,none⟩) 1 1,.slice none 0 0,.bool false,.slice (some ⟨w8.heap.size+1+1+1,0,none⟩) 1 1,.bool false,.int .i64 0,.slice (some ⟨w8.heap.size+1+1+1+1,0,none⟩) 1 1,.slice none 0 0] 42)) (some ⟨w8.heap.size+1+1+1+1+1,0,none⟩) 3 3 wkC.rules:=sl_rulesAt (cs:=[.bool false,.slice (some ⟨w8.heap.size,0,none⟩) 2 2,.bool false,.int .i64 0,.slice none 0 0,.slice none 0 0,.bool false,.slice (some ⟨w8.heap.size+1,0,none⟩) 1 1,.bool false,.int .i64 0,.slice (some ⟨w8.heap.size+1+1,0,none⟩) 1 1,.slice none 0 0,.bool false,.slice (some ⟨w8.heap.size+1+1+1,0,none⟩) 1 1,.bool false,.int .i64 0,.slice (some ⟨w8.heap.size+1+1+1+1,0,none⟩) 1 1,.slice none 0 0]) (blk_new (by simp) _ _)
  ⟨rfl,i2 _ _ _ _ (((((blk_new rfl _ _).alloc _).alloc _).alloc _).alloc _ |>.alloc _) (by simp[I64]) (by simp[I64]),rfl,rfl,by simp[I64],ints_nil _,ints_nil _,
   rfl,i1 _ _ _ (((((blk_new (by simp) _ _).alloc _).alloc _).alloc _).alloc _) (by simp[I64]),rfl,rfl,by simp[I64],i1 _ _ _ ((((blk_new (by simp) _ _).alloc _).alloc _).alloc _) (by simp[I64]),ints_nil _,
   rfl,i1 _ _ _ (((blk_new (by simp) _ _).alloc _).alloc _) (by simp[I64]),rfl,rfl,by simp[I64],i1 _ _ _ ((blk_new (by simp) _ _).alloc _) (by simp[I64]),ints_nil _,trivial⟩ rfl (by simp)
 have hb9:Below w8.heap.size w8 (((((((w8.alloc (.cells #[.int .i64 1,.int .i64 2] 3)).alloc (.cells #[.int .i64 1] 3)).alloc (.cells #[.int .i64 2] 3)).alloc (.cells #[.int .i64 2] 3)).alloc (.cells #[.int .i64 1] 3))).alloc (.cells #[.bool false,.slice (some ⟨w8.heap.size,0,none⟩) 2 2,.bool false,.int .i64 0,.slice none 0 0,.slice none 0 0,.bool false,.slice (some ⟨w8.heap.size+1,0,none⟩) 1 1,.bool false,.int .i64 0,.slice (some ⟨w8.heap.size+1+1,0,none⟩) 1 1,.slice none 0 0,.bool false,.slice (some ⟨w8.heap.size+1+1+1,0,none⟩) 1 1,.bool false,.int .i64 0,.slice (some ⟨w8.heap.size+1+1+1+1,0,none⟩) 1 1,.slice none 0 0] 42)):=bel_trans (bel_trans (bel_trans (bel_trans (bel_trans (bel_alloc _ _) (bel_alloc _ _)) (bel_alloc _ _)) (bel_alloc _ _)) (bel_alloc _ _)) (bel_alloc _ _);have cW:=withI _ 3 3 wkC.rules 2 2 rfl (((((((w8.alloc (.cells #[.int .i64 1,.int .i64 2] 3)).alloc (.cells #[.int .i64 1] 3)).alloc (.cells #[.int .i64 2] 3)).alloc (.cells #[.int .i64 2] 3)).alloc (.cells #[.int .i64 1] 3))).alloc (.cells #[.bool false,.slice (some ⟨w8.heap.size,0,none⟩) 2 2,.bool false,.int .i64 0,.slice none 0 0,.slice none 0 0,.bool false,.slice (some ⟨w8.heap.size+1,0,none⟩) 1 1,.bool false,.int .i64 0,.slice (some ⟨w8.heap.size+1+1,0,none⟩) 1 1,.slice none 0 0,.bool false,.slice (some ⟨w8.heap.size+1+1+1,0,none⟩) 1 1,.bool false,.int .i64 0,.slice (some ⟨w8.heap.size+1+1+1+1,0,none⟩) 1 1,.slice none 0 0] 42)) hr9 (by omega)
 obtain⟨HR9,HB9,CW,BA8,HW8,HA8,HD8,BD8,HL,HLZ⟩:=Zq10 hr9 hb9 cW bA8 hw8 hA8 hD8 bD8 hL hlz;clear hr9 hb9 cW bA8 hw8 hA8 hD8 bD8 hL hlz
 go_wp2_with fail;go_fit CW.out;rintro e w10 ⟨nC,nl3,nc3,rfl,hpC,hb⟩;have hb10:=bel_trans HB9.out hb;have cS:=shift_err wkC nC nl3 nc3 none 0 0 (some ⟨w8.heap.size+1+1+1+1+1,0,none⟩) 3 3 none 0 0 _ hpC (by rw[wkC_e];decide);rw[wkC_e]at cS;clear hb CW HR9 HB9
 obtain⟨HB10,CS,HPC⟩:=Zq3 hb10 cS hpC;clear hb10 cS hpC
 go_wp2_with fail;go_fit CS.out;rintro e w11 ⟨rfl,hb⟩;have hb11:=bel_trans HB10.out (bel_trans hb (bel_alloc w11 (.cells #[.int .i64 0,.slice none 0 0,.slice none 0 0,.slice none 0 0,.slice none 0 0] 27)));have bA:=BA8.out.bel hb11;have bD:=BD8.out.bel hb11;have hA:=HA8.out.ext hb11;have hD:=HD8.out.ext hb11;have hL1:=HL.out.ext hb11;have hw11:=bel_trans HW8.out hb11;clear hb hb11 CS HPC HB10 BA8 BD8 HA8 HD8 HL HW8
 obtain⟨BA,BD,HA,HD,HL1,HW11⟩:=Zq6 bA bD hA hD hL1 hw11;clear bA bD hA hD hL1 hw11
 go_wp2_with fail;generalize w11.alloc (.cells #[.int .i64 0,.slice none 0 0,.slice none 0 0,.slice none 0 0,.slice none 0 0] 27)=wq at *
 obtain⟨SP,hSP⟩:∃SP:List (Value→World→Prop),SP=[fun v W=>v=(.int .i64 0:Value),fun v W=>v=(.int .i64 0:Value),fun v W=>v=(.int .i64 0:Value),fun v W=>v=(.int .i64 0:Value),fun v W=>v=(.int .i64 0:Value),fun v W=>v=(.bool true:Value),fun v W=>v=(.bool true:Value),fun v W=>v=(.int .i64 220:Value),fun v W=>v=(.bool true:Value),fun v W=>v=(.bool true:Value),fun v W=>v=(.bool true:Value),fun v W=>v=(.slice lA ll lc:Value),fun v W=>Ints W v [1,4,6],fun v W=>v=(.bool true:Value),fun v W=>v=(.bool true:Value),fun v W=>v=(.bool true:Value),fun v W=>v=(.agg #[.int .i64 (withP 4 wkAL).n,.slice aA aB aC,.slice aD aE aF,.slice aG aH aI,.slice aJ aK aL]:Value),fun v W=>Ints W v [1],fun v W=>Ints W v [-2,3,-4],fun v W=>RuleV W v ⟨false,[1],false,0,[-2,3,-4],[]⟩,fun v W=>Ints W v [2],fun v W=>Ints W v [-1,3,-4],fun v W=>RuleV W v ⟨false,[2],false,0,[-1,3,-4],[]⟩,fun v W=>RowV W v wkAL,fun v W=>ProgV W v 4 wkAL,fun v W=>v=(.bool true:Value),fun v W=>v=(.bool true:Value),fun v W=>v=(.bool true:Value),fun v W=>v=(.agg #[.int .i64 (withP 6 wkBL).n,.slice dA dB dC,.slice dD dE dF,.slice dG dH dI,.slice dJ dK dL]:Value),fun v W=>Ints W v [6],fun v W=>Ints W v [4,-5],fun v W=>Ints W v [1,1],fun v W=>RuleV W v ⟨false,[6],true,2,[4,-5],[1,1]⟩,fun v W=>Ints W v [1],fun v W=>Ints W v [-2,-3,6],fun v W=>RuleV W v ⟨false,[1],false,0,[-2,-3,6],[]⟩,fun v W=>Ints W v [2],fun v W=>Ints W v [-1,-3,6],fun v W=>RuleV W v ⟨false,[2],false,0,[-1,-3,6],[]⟩,fun v W=>Ints W v [3],fun v W=>Ints W v [-1,-2,6],fun v W=>RuleV W v ⟨false,[3],false,0,[-1,-2,6],[]⟩,fun v W=>RowV W v wkBL,fun v W=>ProgV W v 6 wkBL,fun v W=>v=(.bool true:Value),fun v W=>v=(.bool true:Value),fun v W=>v=(.bool true:Value)]:=⟨_,rfl⟩
 have S0:Hid (∀v W,SP.getD 0 (fun _ _=>True) v W↔v=(.int .i64 0:Value)):=Zq1 (fun v W=>by rw[hSP];exact Iff.rfl);have S1:Hid (∀v W,SP.getD 1 (fun _ _=>True) v W↔v=(.int .i64 0:Value)):=Zq1 (fun v W=>by rw[hSP];exact Iff.rfl);have S2:Hid (∀v W,SP.getD 2 (fun _ _=>True) v W↔v=(.int .i64 0:Value)):=Zq1 (fun v W=>by rw[hSP];exact Iff.rfl);have S3:Hid (∀v W,SP.getD 3 (fun _ _=>True) v W↔v=(.int .i64 0:Value)):=Zq1 (fun v W=>by rw[hSP];exact Iff.rfl);have S4:Hid (∀v W,SP.getD 4 (fun _ _=>True) v W↔v=(.int .i64 0:Value)):=Zq1 (fun v W=>by rw[hSP];exact Iff.rfl);have S5:Hid (∀v W,SP.getD 5 (fun _ _=>True) v W↔v=(.bool true:Value)):=Zq1 (fun v W=>by rw[hSP];exact Iff.rfl);have S6:Hid (∀v W,SP.getD 6 (fun _ _=>True) v W↔v=(.bool true:Value)):=Zq1 (fun v W=>by rw[hSP];exact Iff.rfl);have S7:Hid (∀v W,SP.getD 7 (fun _ _=>True) v W↔v=(.int .i64 220:Value)):=Zq1 (fun v W=>by rw[hSP];exact Iff.rfl);have S8:Hid (∀v W,SP.getD 8 (fun _ _=>True) v W↔v=(.bool true:Value)):=Zq1 (fun v W=>by rw[hSP];exact Iff.rfl);have S9:Hid (∀v W,SP.getD 9 (fun _ _=>True) v W↔v=(.bool true:Value)):=Zq1 (fun v W=>by rw[hSP];exact Iff.rfl);have S10:Hid (∀v W,SP.getD 10 (fun _ _=>True) v W↔v=(.bool true:Value)):=Zq1 (fun v W=>by rw[hSP];exact Iff.rfl);have S11:Hid (∀v W,SP.getD 11 (fun _ _=>True) v W↔v=(.slice lA ll lc:Value)):=Zq1 (fun v W=>by rw[hSP];exact Iff.rfl);have S12:Hid (∀v W,SP.getD 12 (fun _ _=>True) v W↔Ints W v [1,4,6]):=Zq1 (fun v W=>by rw[hSP];exact Iff.rfl);have S13:Hid (∀v W,SP.getD 13 (fun _ _=>True) v W↔v=(.bool true:Value)):=Zq1 (fun v W=>by rw[hSP];exact Iff.rfl);have S14:Hid (∀v W,SP.getD 14 (fun _ _=>True) v W↔v=(.bool true:Value)):=Zq1 (fun v W=>by rw[hSP];exact Iff.rfl);have S15:Hid (∀v W,SP.getD 15 (fun _ _=>True) v W↔v=(.bool true:Value)):=Zq1 (fun v W=>by rw[hSP];exact Iff.rfl);have S16:Hid (∀v W,SP.getD 16 (fun _ _=>True) v W↔v=(.agg #[.int .i64 (withP 4 wkAL).n,.slice aA aB aC,.slice aD aE aF,.slice aG aH aI,.slice aJ aK aL]:Value)):=Zq1 (fun v W=>by rw[hSP];exact Iff.rfl);have S17:Hid (∀v W,SP.getD 17 (fun _ _=>True) v W↔Ints W v [1]):=Zq1 (fun v W=>by rw[hSP];exact Iff.rfl);have S18:Hid (∀v W,SP.getD 18 (fun _ _=>True) v W↔Ints W v [-2,3,-4]):=Zq1 (fun v W=>by rw[hSP];exact Iff.rfl);have S19:Hid (∀v W,SP.getD 19 (fun _ _=>True) v W↔RuleV W v ⟨false,[1],false,0,[-2,3,-4],[]⟩):=Zq1 (fun v W=>by rw[hSP];exact Iff.rfl);have S20:Hid (∀v W,SP.getD 20 (fun _ _=>True) v W↔Ints W v [2]):=Zq1 (fun v W=>by rw[hSP];exact Iff.rfl);have S21:Hid (∀v W,SP.getD 21 (fun _ _=>True) v W↔Ints W v [-1,3,-4]):=Zq1 (fun v W=>by rw[hSP];exact Iff.rfl);have S22:Hid (∀v W,SP.getD 22 (fun _ _=>True) v W↔RuleV W v ⟨false,[2],false,0,[-1,3,-4],[]⟩):=Zq1 (fun v W=>by rw[hSP];exact Iff.rfl);have S23:Hid (∀v W,SP.getD 23 (fun _ _=>True) v W↔RowV W v wkAL):=Zq1 (fun v W=>by rw[hSP];exact Iff.rfl);have S24:Hid (∀v W,SP.getD 24 (fun _ _=>True) v W↔ProgV W v 4 wkAL):=Zq1 (fun v W=>by rw[hSP];exact Iff.rfl);have S25:Hid (∀v W,SP.getD 25 (fun _ _=>True) v W↔v=(.bool true:Value)):=Zq1 (fun v W=>by rw[hSP];exact Iff.rfl);have S26:Hid (∀v W,SP.getD 26 (fun _ _=>True) v W↔v=(.bool true:Value)):=Zq1 (fun v W=>by rw[hSP];exact Iff.rfl);have S27:Hid (∀v W,SP.getD 27 (fun _ _=>True) v W↔v=(.bool true:Value)):=Zq1 (fun v W=>by rw[hSP];exact Iff.rfl);have S28:Hid (∀v W,SP.getD 28 (fun _ _=>True) v W↔v=(.agg #[.int .i64 (withP 6 wkBL).n,.slice dA dB dC,.slice dD dE dF,.slice dG dH dI,.slice dJ dK dL]:Value)):=Zq1 (fun v W=>by rw[hSP];exact Iff.rfl);have S29:Hid (∀v W,SP.getD 29 (fun _ _=>True) v W↔Ints W v [6]):=Zq1 (fun v W=>by rw[hSP];exact Iff.rfl);have S30:Hid (∀v W,SP.getD 30 (fun _ _=>True) v W↔Ints W v [4,-5]):=Zq1 (fun v W=>by rw[hSP];exact Iff.rfl);have S31:Hid (∀v W,SP.getD 31 (fun _ _=>True) v W↔Ints W v [1,1]):=Zq1 (fun v W=>by rw[hSP];exact Iff.rfl);have S32:Hid (∀v W,SP.getD 32 (fun _ _=>True) v W↔RuleV W v ⟨false,[6],true,2,[4,-5],[1,1]⟩):=Zq1 (fun v W=>by rw[hSP];exact Iff.rfl);have S33:Hid (∀v W,SP.getD 33 (fun _ _=>True) v W↔Ints W v [1]):=Zq1 (fun v W=>by rw[hSP];exact Iff.rfl);have S34:Hid (∀v W,SP.getD 34 (fun _ _=>True) v W↔Ints W v [-2,-3,6]):=Zq1 (fun v W=>by rw[hSP];exact Iff.rfl);have S35:Hid (∀v W,SP.getD 35 (fun _ _=>True) v W↔RuleV W v ⟨false,[1],false,0,[-2,-3,6],[]⟩):=Zq1 (fun v W=>by rw[hSP];exact Iff.rfl);have S36:Hid (∀v W,SP.getD 36 (fun _ _=>True) v W↔Ints W v [2]):=Zq1 (fun v W=>by rw[hSP];exact Iff.rfl);have S37:Hid (∀v W,SP.getD 37 (fun _ _=>True) v W↔Ints W v [-1,-3,6]):=Zq1 (fun v W=>by rw[hSP];exact Iff.rfl);have S38:Hid (∀v W,SP.getD 38 (fun _ _=>True) v W↔RuleV W v ⟨false,[2],false,0,[-1,-3,6],[]⟩):=Zq1 (fun v W=>by rw[hSP];exact Iff.rfl);have S39:Hid (∀v W,SP.getD 39 (fun _ _=>True) v W↔Ints W v [3]):=Zq1 (fun v W=>by rw[hSP];exact Iff.rfl);have S40:Hid (∀v W,SP.getD 40 (fun _ _=>True) v W↔Ints W v [-1,-2,6]):=Zq1 (fun v W=>by rw[hSP];exact Iff.rfl);have S41:Hid (∀v W,SP.getD 41 (fun _ _=>True) v W↔RuleV W v ⟨false,[3],false,0,[-1,-2,6],[]⟩):=Zq1 (fun v W=>by rw[hSP];exact Iff.rfl);have S42:Hid (∀v W,SP.getD 42 (fun _ _=>True) v W↔RowV W v wkBL):=Zq1 (fun v W=>by rw[hSP];exact Iff.rfl);have S43:Hid (∀v W,SP.getD 43 (fun _ _=>True) v W↔ProgV W v 6 wkBL):=Zq1 (fun v W=>by rw[hSP];exact Iff.rfl);have S44:Hid (∀v W,SP.getD 44 (fun _ _=>True) v W↔v=(.bool true:Value)):=Zq1 (fun v W=>by rw[hSP];exact Iff.rfl);have S45:Hid (∀v W,SP.getD 45 (fun _ _=>True) v W↔v=(.bool true:Value)):=Zq1 (fun v W=>by rw[hSP];exact Iff.rfl);have S46:Hid (∀v W,SP.getD 46 (fun _ _=>True) v W↔v=(.bool true:Value)):=Zq1 (fun v W=>by rw[hSP];exact Iff.rfl)
 have hst:∀p∈SP,LastP p:=by
  rw[hSP];simp only[List.forall_mem_cons]
  exact⟨stab_c _,stab_c _,stab_c _,stab_c _,stab_c _,stab_c _,stab_c _,stab_c _,stab_c _,stab_c _,stab_c _,stab_c _,stab_ints _,stab_c _,stab_c _,stab_c _,stab_c _,stab_ints _,stab_ints _,stab_rule _,stab_ints _,stab_ints _,stab_rule _,stab_row _,stab_prog _ _,stab_c _,stab_c _,stab_c _,stab_c _,stab_ints _,stab_ints _,stab_ints _,stab_rule _,stab_ints _,stab_ints _,stab_rule _,stab_ints _,stab_ints _,stab_rule _,stab_ints _,stab_ints _,stab_rule _,stab_row _,stab_prog _ _,stab_c _,stab_c _,stab_c _,by simp⟩
 have HST:=Zq1 hst;have HSP:=Zq1 hSP;clear hst hSP;refine wp_region_mono [50,51,52,53,54,55,56,57,58,59,60,61,62,63,64,65,66,67,68,69,70,71,72,73,74,75,76,77,78,79,80,81,82,83,84,85,86,87,88,89,90,91,92,93,94,95,0] (fun i v W=>SP.getD i (fun _ _=>True) v W) (by kernel_rfl) (by rfl) (by decide) (by show ∀d∈_,d<96;decide) ?ord (spec_ext HST.out) ⟨?o0,?o1,?o2,?o3,?o4,?o5,?o6,?o7,?o8,?o9,?o10,?o11,?o12,?o13,?o14,?o15,?o16,?o17,?o18,?o19,?o20,?o21,?o22,?o23,?o24,?o25,?o26,?o27,?o28,?o29,?o30,?o31,?o32,?o33,?o34,?o35,?o36,?o37,?o38,?o39,?o40,?o41,?o42,?o43,?o44,?o45,?o46,trivial⟩ ?fin
 case ord=>exact ordB_ok _ (by kernel_rfl)
 case o0=>
  intro b W hB hfr hdep;have r2:b.tmps.getD 2 undef=.int .i64 0:=(hfr 2 (by decide)).trans rfl;have r2':b.tmps[2]?.getD undef=.int .i64 0:=by rw[← Array.getD_eq_getD_getElem?];exact r2
  refine⟨rfl,fun K hK=>?_⟩
  have HK:=Zq1 hK;clear hK hfr hdep;go_simp;exact HK.out _ _ (Below.refl _ _) ((S0.out _ _).2 rfl)
 case o1=>
  intro b W hB hfr hdep;have r5:b.tmps.getD 5 undef=.int .i64 0:=(hfr 5 (by decide)).trans rfl;have r5':b.tmps[5]?.getD undef=.int .i64 0:=by rw[← Array.getD_eq_getD_getElem?];exact r5
  refine⟨rfl,fun K hK=>?_⟩
  have HK:=Zq1 hK;clear hK hfr hdep;go_simp;exact HK.out _ _ (Below.refl _ _) ((S1.out _ _).2 rfl)
 case o2=>
  intro b W hB hfr hdep;have t0:=(S0.out _ _).1 (hdep 0 rfl 50 rfl);have e0:b.tmps[50]?.getD undef=.int .i64 0:=by rw[← Array.getD_eq_getD_getElem?];exact t0
  have t1:=(S1.out _ _).1 (hdep 1 rfl 51 rfl);have e1:b.tmps[51]?.getD undef=.int .i64 0:=by rw[← Array.getD_eq_getD_getElem?];exact t1
  refine⟨rfl,fun K hK=>?_⟩
  have HK:=Zq1 hK;clear hK hfr hdep;go_simp;exact HK.out _ _ (Below.refl _ _) ((S2.out _ _).2 rfl)
 case o3=>
  intro b W hB hfr hdep;have r7:b.tmps.getD 7 undef=.int .i64 0:=(hfr 7 (by decide)).trans rfl;have r7':b.tmps[7]?.getD undef=.int .i64 0:=by rw[← Array.getD_eq_getD_getElem?];exact r7
  refine⟨rfl,fun K hK=>?_⟩
  have HK:=Zq1 hK;clear hK hfr hdep;go_simp;exact HK.out _ _ (Below.refl _ _) ((S3.out _ _).2 rfl)
 case o4=>
  intro b W hB hfr hdep;have t2:=(S2.out _ _).1 (hdep 2 rfl 52 rfl);have e2:b.tmps[52]?.getD undef=.int .i64 0:=by rw[← Array.getD_eq_getD_getElem?];exact t2
  have t3:=(S3.out _ _).1 (hdep 3 rfl 53 rfl);have e3:b.tmps[53]?.getD undef=.int .i64 0:=by rw[← Array.getD_eq_getD_getElem?];exact t3
  refine⟨rfl,fun K hK=>?_⟩
  have HK:=Zq1 hK;clear hK hfr hdep;go_simp;exact HK.out _ _ (Below.refl _ _) ((S4.out _ _).2 rfl)
 case o5=>
  intro b W hB hfr hdep;have t4:=(S4.out _ _).1 (hdep 4 rfl 54 rfl);have e4:b.tmps[54]?.getD undef=.int .i64 0:=by rw[← Array.getD_eq_getD_getElem?];exact t4
  refine⟨rfl,fun K hK=>?_⟩
  have HK:=Zq1 hK;clear hK hfr hdep;go_simp;exact HK.out _ _ (Below.refl _ _) ((S5.out _ _).2 rfl)
 case o6=>
  intro b W hB hfr hdep;have t5:=(S5.out _ _).1 (hdep 5 rfl 55 rfl);have e5:b.tmps[55]?.getD undef=.bool true:=by rw[← Array.getD_eq_getD_getElem?];exact t5
  refine⟨rfl,fun K hK=>?_⟩
  have HK:=Zq1 hK;clear hK hfr hdep;go_simp;exact HK.out _ _ (Below.refl _ _) ((S6.out _ _).2 rfl)
 case o7=>
  intro b W hB hfr hdep;have r9:b.tmps.getD 9 undef=.int .i64 220:=(hfr 9 (by decide)).trans rfl;have r9':b.tmps[9]?.getD undef=.int .i64 220:=by rw[← Array.getD_eq_getD_getElem?];exact r9
  have t6:=(S6.out _ _).1 (hdep 6 rfl 56 rfl);have e6:b.tmps[56]?.getD undef=.bool true:=by rw[← Array.getD_eq_getD_getElem?];exact t6
  refine⟨by show (yielded _ b.tmps 6==some true)=true;rw[yields_of (d:=56) rfl t6];rfl,fun K hK=>?_⟩
  have HK:=Zq1 hK;clear hK hfr hdep;go_simp;exact HK.out _ _ (Below.refl _ _) ((S7.out _ _).2 rfl)
 case o8=>
  intro b W hB hfr hdep;have t7:=(S7.out _ _).1 (hdep 7 rfl 57 rfl);have e7:b.tmps[57]?.getD undef=.int .i64 220:=by rw[← Array.getD_eq_getD_getElem?];exact t7
  have t6:=(S6.out _ _).1 (hdep 6 rfl 56 rfl);have e6:b.tmps[56]?.getD undef=.bool true:=by rw[← Array.getD_eq_getD_getElem?];exact t6
  refine⟨by show (yielded _ b.tmps 6==some true)=true;rw[yields_of (d:=56) rfl t6];rfl,fun K hK=>?_⟩
  have HK:=Zq1 hK;clear hK hfr hdep;go_simp;exact HK.out _ _ (Below.refl _ _) ((S8.out _ _).2 rfl)
 case o9=>
  intro b W hB hfr hdep;have t6:=(S6.out _ _).1 (hdep 6 rfl 56 rfl);have e6:b.tmps[56]?.getD undef=.bool true:=by rw[← Array.getD_eq_getD_getElem?];exact t6
  have t8:=(S8.out _ _).1 (hdep 8 rfl 58 rfl);have e8:b.tmps[58]?.getD undef=.bool true:=by rw[← Array.getD_eq_getD_getElem?];exact t8
  refine⟨rfl,fun K hK=>?_⟩
  have HK:=Zq1 hK;clear hK hfr hdep;go_simp;exact HK.out _ _ (Below.refl _ _) ((S9.out _ _).2 rfl)
 case o10=>
  intro b W hB hfr hdep;have t9:=(S9.out _ _).1 (hdep 9 rfl 59 rfl);have e9:b.tmps[59]?.getD undef=.bool true:=by rw[← Array.getD_eq_getD_getElem?];exact t9
  refine⟨rfl,fun K hK=>?_⟩
  have HK:=Zq1 hK;clear hK hfr hdep;go_simp;exact HK.out _ _ (Below.refl _ _) ((S10.out _ _).2 rfl)
 case o11=>
  intro b W hB hfr hdep;have r6:b.tmps.getD 6 undef=.slice lA ll lc:=(hfr 6 (by decide)).trans rfl;have r6':b.tmps[6]?.getD undef=.slice lA ll lc:=by rw[← Array.getD_eq_getD_getElem?];exact r6
  have t10:=(S10.out _ _).1 (hdep 10 rfl 60 rfl);have e10:b.tmps[60]?.getD undef=.bool true:=by rw[← Array.getD_eq_getD_getElem?];exact t10
  refine⟨by show (yielded _ b.tmps 10==some true)=true;rw[yields_of (d:=60) rfl t10];rfl,fun K hK=>?_⟩
  have HK:=Zq1 hK;clear hK hfr hdep;go_simp;exact HK.out _ _ (Below.refl _ _) ((S11.out _ _).2 rfl)
 case o12=>
  intro b W hB hfr hdep;have t10:=(S10.out _ _).1 (hdep 10 rfl 60 rfl);have e10:b.tmps[60]?.getD undef=.bool true:=by rw[← Array.getD_eq_getD_getElem?];exact t10
  refine⟨by show (yielded _ b.tmps 10==some true)=true;rw[yields_of (d:=60) rfl t10];rfl,fun K hK=>?_⟩
  have HK:=Zq1 hK;clear hK hfr hdep;go_simp;exact HK.out _ _ (bel_alloc _ _) ((S12.out _ _).2 (ints_at22 [1,4,6] (Blk.new W 3 #[.int .i64 1,.int .i64 4,.int .i64 6]) rfl (by simp) (by simp[I64])))
 case o13=>
  intro b W hB hfr hdep;have t11:=(S11.out _ _).1 (hdep 11 rfl 61 rfl);have e11:b.tmps[61]?.getD undef=.slice lA ll lc:=by rw[← Array.getD_eq_getD_getElem?];exact t11
  have t12:=(S12.out _ _).1 (hdep 12 rfl 62 rfl)
  obtain⟨A12,l12,c12,t12,h12⟩:=t12
  replace t12:=(List.cons.inj t12).1;have e12:b.tmps[62]?.getD undef=.slice A12 l12 c12:=by rw[← Array.getD_eq_getD_getElem?];exact t12
  have t10:=(S10.out _ _).1 (hdep 10 rfl 60 rfl);have e10:b.tmps[60]?.getD undef=.bool true:=by rw[← Array.getD_eq_getD_getElem?];exact t10
  refine⟨by show (yielded _ b.tmps 10==some true)=true;rw[yields_of (d:=60) rfl t10];rfl,fun K hK=>?_⟩
  have HK:=Zq1 hK;clear hK hfr hdep;have CW:=lawInts_any lA ll lc A12 l12 c12 [1,4,6] [1,4,6] W (HL1.out.ext hB) h12;rw[show decide (([1,4,6]:LI)=[1,4,6])=true from rfl]at CW;replace CW:=Zq1 CW;have H12_:=Zq1 h12;clear h12;go_simp;refine CW.out.mono ?_;rintro e v ⟨rfl,hb⟩;exact HK.out _ _ hb ((S13.out _ _).2 rfl)
 case o14=>
  intro b W hB hfr hdep;have t10:=(S10.out _ _).1 (hdep 10 rfl 60 rfl);have e10:b.tmps[60]?.getD undef=.bool true:=by rw[← Array.getD_eq_getD_getElem?];exact t10
  have t13:=(S13.out _ _).1 (hdep 13 rfl 63 rfl);have e13:b.tmps[63]?.getD undef=.bool true:=by rw[← Array.getD_eq_getD_getElem?];exact t13
  refine⟨rfl,fun K hK=>?_⟩
  have HK:=Zq1 hK;clear hK hfr hdep;go_simp;exact HK.out _ _ (Below.refl _ _) ((S14.out _ _).2 rfl)
 case o15=>
  intro b W hB hfr hdep;have t14:=(S14.out _ _).1 (hdep 14 rfl 64 rfl);have e14:b.tmps[64]?.getD undef=.bool true:=by rw[← Array.getD_eq_getD_getElem?];exact t14
  refine⟨rfl,fun K hK=>?_⟩
  have HK:=Zq1 hK;clear hK hfr hdep;go_simp;exact HK.out _ _ (Below.refl _ _) ((S15.out _ _).2 rfl)
 case o16=>
  intro b W hB hfr hdep;have r1:b.tmps.getD 1 undef=.pointer (some ⟨w2.heap.size,0,none⟩):=(hfr 1 (by decide)).trans rfl;have r1':b.tmps[1]?.getD undef=.pointer (some ⟨w2.heap.size,0,none⟩):=by rw[← Array.getD_eq_getD_getElem?];exact r1
  have t15:=(S15.out _ _).1 (hdep 15 rfl 65 rfl);have e15:b.tmps[65]?.getD undef=.bool true:=by rw[← Array.getD_eq_getD_getElem?];exact t15
  refine⟨by show (yielded _ b.tmps 15==some true)=true;rw[yields_of (d:=65) rfl t15];rfl,fun K hK=>?_⟩
  have HK:=Zq1 hK;clear hK hfr hdep;have hxc:=BA.out.bel hB
  obtain⟨p0,p1,p2,p3,p4,p5⟩:=pcells hxc
  clear hxc;go_simp;exact HK.out _ _ (Below.refl _ _) ((S16.out _ _).2 rfl)
 case o17=>
  intro b W hB hfr hdep;have t15:=(S15.out _ _).1 (hdep 15 rfl 65 rfl);have e15:b.tmps[65]?.getD undef=.bool true:=by rw[← Array.getD_eq_getD_getElem?];exact t15
  refine⟨by show (yielded _ b.tmps 15==some true)=true;rw[yields_of (d:=65) rfl t15];rfl,fun K hK=>?_⟩
  have HK:=Zq1 hK;clear hK hfr hdep;go_simp;exact HK.out _ _ (bel_alloc _ _) ((S17.out _ _).2 (ints_at22 [1] (Blk.new W 3 #[.int .i64 1]) rfl (by simp) (by simp[I64])))
 case o18=>
  intro b W hB hfr hdep;have t15:=(S15.out _ _).1 (hdep 15 rfl 65 rfl);have e15:b.tmps[65]?.getD undef=.bool true:=by rw[← Array.getD_eq_getD_getElem?];exact t15
  refine⟨by show (yielded _ b.tmps 15==some true)=true;rw[yields_of (d:=65) rfl t15];rfl,fun K hK=>?_⟩
  have HK:=Zq1 hK;clear hK hfr hdep;go_simp;exact HK.out _ _ (bel_alloc _ _) ((S18.out _ _).2 (ints_at22 [-2,3,-4] (Blk.new W 3 #[.int .i64 (-2),.int .i64 3,.int .i64 (-4)]) rfl (by simp) (by simp[I64])))
 case o19=>
  intro b W hB hfr hdep;have t17:=(S17.out _ _).1 (hdep 17 rfl 67 rfl)
  obtain⟨A17,l17,c17,t17,h17⟩:=t17
  replace t17:=(List.cons.inj t17).1;have e17:b.tmps[67]?.getD undef=.slice A17 l17 c17:=by rw[← Array.getD_eq_getD_getElem?];exact t17
  have t18:=(S18.out _ _).1 (hdep 18 rfl 68 rfl)
  obtain⟨A18,l18,c18,t18,h18⟩:=t18
  replace t18:=(List.cons.inj t18).1;have e18:b.tmps[68]?.getD undef=.slice A18 l18 c18:=by rw[← Array.getD_eq_getD_getElem?];exact t18
  have t15:=(S15.out _ _).1 (hdep 15 rfl 65 rfl);have e15:b.tmps[65]?.getD undef=.bool true:=by rw[← Array.getD_eq_getD_getElem?];exact t15
  refine⟨by show (yielded _ b.tmps 15==some true)=true;rw[yields_of (d:=65) rfl t15];rfl,fun K hK=>?_⟩
  have HK:=Zq1 hK;clear hK hfr hdep;have H17_:=Zq1 h17;clear h17;have H18_:=Zq1 h18;clear h18;go_simp;exact HK.out _ _ (Below.refl _ _) ((S19.out _ _).2 ⟨_,_,_,rfl,⟨_,_,_,rfl,H17_.out⟩,⟨_,_,_,rfl,H18_.out⟩,ints_nil _⟩)
 case o20=>
  intro b W hB hfr hdep;have t15:=(S15.out _ _).1 (hdep 15 rfl 65 rfl);have e15:b.tmps[65]?.getD undef=.bool true:=by rw[← Array.getD_eq_getD_getElem?];exact t15
  refine⟨by show (yielded _ b.tmps 15==some true)=true;rw[yields_of (d:=65) rfl t15];rfl,fun K hK=>?_⟩
  have HK:=Zq1 hK;clear hK hfr hdep;go_simp;exact HK.out _ _ (bel_alloc _ _) ((S20.out _ _).2 (ints_at22 [2] (Blk.new W 3 #[.int .i64 2]) rfl (by simp) (by simp[I64])))
 case o21=>
  intro b W hB hfr hdep;have t15:=(S15.out _ _).1 (hdep 15 rfl 65 rfl);have e15:b.tmps[65]?.getD undef=.bool true:=by rw[← Array.getD_eq_getD_getElem?];exact t15
  refine⟨by show (yielded _ b.tmps 15==some true)=true;rw[yields_of (d:=65) rfl t15];rfl,fun K hK=>?_⟩
  have HK:=Zq1 hK;clear hK hfr hdep;go_simp;exact HK.out _ _ (bel_alloc _ _) ((S21.out _ _).2 (ints_at22 [-1,3,-4] (Blk.new W 3 #[.int .i64 (-1),.int .i64 3,.int .i64 (-4)]) rfl (by simp) (by simp[I64])))
 case o22=>
  intro b W hB hfr hdep;have t20:=(S20.out _ _).1 (hdep 20 rfl 70 rfl)
  obtain⟨A20,l20,c20,t20,h20⟩:=t20
  replace t20:=(List.cons.inj t20).1;have e20:b.tmps[70]?.getD undef=.slice A20 l20 c20:=by rw[← Array.getD_eq_getD_getElem?];exact t20
  have t21:=(S21.out _ _).1 (hdep 21 rfl 71 rfl)
  obtain⟨A21,l21,c21,t21,h21⟩:=t21
  replace t21:=(List.cons.inj t21).1;have e21:b.tmps[71]?.getD undef=.slice A21 l21 c21:=by rw[← Array.getD_eq_getD_getElem?];exact t21
  have t15:=(S15.out _ _).1 (hdep 15 rfl 65 rfl);have e15:b.tmps[65]?.getD undef=.bool true:=by rw[← Array.getD_eq_getD_getElem?];exact t15
  refine⟨by show (yielded _ b.tmps 15==some true)=true;rw[yields_of (d:=65) rfl t15];rfl,fun K hK=>?_⟩
  have HK:=Zq1 hK;clear hK hfr hdep;have H20_:=Zq1 h20;clear h20;have H21_:=Zq1 h21;clear h21;go_simp;exact HK.out _ _ (Below.refl _ _) ((S22.out _ _).2 ⟨_,_,_,rfl,⟨_,_,_,rfl,H20_.out⟩,⟨_,_,_,rfl,H21_.out⟩,ints_nil _⟩)
 case o23=>
  intro b W hB hfr hdep;have t19:=(S19.out _ _).1 (hdep 19 rfl 69 rfl)
  obtain⟨_,_,_,t19,⟨A19,l19,c19,x1,h19⟩,⟨A19b,l19b,c19b,x2,h19b⟩,⟨A19c,l19c,c19c,x3,h19c⟩⟩:=t19
  cases x1;cases x2;cases x3;have e19:b.tmps[69]?.getD undef=.agg #[.bool false,.slice A19 l19 c19,.bool false,.int .i64 0,.slice A19b l19b c19b,.slice A19c l19c c19c]:=by rw[← Array.getD_eq_getD_getElem?];exact t19
  have t22:=(S22.out _ _).1 (hdep 22 rfl 72 rfl)
  obtain⟨_,_,_,t22,⟨A22,l22,c22,x1,h22⟩,⟨A22b,l22b,c22b,x2,h22b⟩,⟨A22c,l22c,c22c,x3,h22c⟩⟩:=t22
  cases x1;cases x2;cases x3;have e22:b.tmps[72]?.getD undef=.agg #[.bool false,.slice A22 l22 c22,.bool false,.int .i64 0,.slice A22b l22b c22b,.slice A22c l22c c22c]:=by rw[← Array.getD_eq_getD_getElem?];exact t22
  have t15:=(S15.out _ _).1 (hdep 15 rfl 65 rfl);have e15:b.tmps[65]?.getD undef=.bool true:=by rw[← Array.getD_eq_getD_getElem?];exact t15
  refine⟨by show (yielded _ b.tmps 15==some true)=true;rw[yields_of (d:=65) rfl t15];rfl,fun K hK=>?_⟩
  have HK:=Zq1 hK;clear hK hfr hdep;have H19_:=Zq1 h19;clear h19;have H19B_:=Zq1 h19b;clear h19b;have H19C_:=Zq1 h19c;clear h19c;have H22_:=Zq1 h22;clear h22;have H22B_:=Zq1 h22b;clear h22b;have H22C_:=Zq1 h22c;clear h22c;go_simp;exact HK.out _ _ (bel_alloc _ _) ((S23.out _ _).2 ⟨_,_,_,rfl,sl_rulesAt (cs:=[.bool false,.slice A19 l19 c19,.bool false,.int .i64 0,.slice A19b l19b c19b,.slice A19c l19c c19c,.bool false,.slice A22 l22 c22,.bool false,.int .i64 0,.slice A22b l22b c22b,.slice A22c l22c c22c]) (Blk.new W 42 #[.bool false,.slice A19 l19 c19,.bool false,.int .i64 0,.slice A19b l19b c19b,.slice A19c l19c c19c,.bool false,.slice A22 l22 c22,.bool false,.int .i64 0,.slice A22b l22b c22b,.slice A22c l22c c22c]) ⟨rfl,⟨_,_,_,rfl,H19_.out.ext (bel_alloc _ _)⟩,rfl,rfl,by simp[I64],⟨_,_,_,rfl,H19B_.out.ext (bel_alloc _ _)⟩,⟨_,_,_,rfl,H19C_.out.ext (bel_alloc _ _)⟩,rfl,⟨_,_,_,rfl,H22_.out.ext (bel_alloc _ _)⟩,rfl,rfl,by simp[I64],⟨_,_,_,rfl,H22B_.out.ext (bel_alloc _ _)⟩,⟨_,_,_,rfl,H22C_.out.ext (bel_alloc _ _)⟩,trivial⟩ rfl (by simp)⟩)
 case o24=>
  intro b W hB hfr hdep;have t23:=(S23.out _ _).1 (hdep 23 rfl 73 rfl)
  obtain⟨A23,l23,c23,t23,h23⟩:=t23
  have e23:b.tmps[73]?.getD undef=.slice A23 l23 c23:=by rw[← Array.getD_eq_getD_getElem?];exact t23
  have t15:=(S15.out _ _).1 (hdep 15 rfl 65 rfl);have e15:b.tmps[65]?.getD undef=.bool true:=by rw[← Array.getD_eq_getD_getElem?];exact t15
  refine⟨by show (yielded _ b.tmps 15==some true)=true;rw[yields_of (d:=65) rfl t15];rfl,fun K hK=>?_⟩
  have HK:=Zq1 hK;clear hK hfr hdep;have CW:=Zq1 (withI A23 l23 c23 wkAL 4 4 rfl W h23 (by omega));have H23_:=Zq1 h23;clear h23;go_simp;refine CW.out.mono ?_;rintro e v ⟨nA,nl,nc,rfl,hp,hb⟩;exact HK.out _ _ hb ((S24.out _ _).2 ⟨_,_,_,_,_,_,rfl,hp⟩)
 case o25=>
  intro b W hB hfr hdep;have t16:=(S16.out _ _).1 (hdep 16 rfl 66 rfl);have e16:b.tmps[66]?.getD undef=.agg #[.int .i64 (withP 4 wkAL).n,.slice aA aB aC,.slice aD aE aF,.slice aG aH aI,.slice aJ aK aL]:=by rw[← Array.getD_eq_getD_getElem?];exact t16
  have t24:=(S24.out _ _).1 (hdep 24 rfl 74 rfl)
  obtain⟨nA,nl,nc,rA,rl,rc,t24,hp⟩:=t24
  have e24:b.tmps[74]?.getD undef=.agg #[.int .i64 (withP 4 wkAL).n,.slice nA nl nc,.slice none 0 0,.slice rA rl rc,.slice none 0 0]:=by rw[← Array.getD_eq_getD_getElem?];exact t24
  have t15:=(S15.out _ _).1 (hdep 15 rfl 65 rfl);have e15:b.tmps[65]?.getD undef=.bool true:=by rw[← Array.getD_eq_getD_getElem?];exact t15
  refine⟨by show (yielded _ b.tmps 15==some true)=true;rw[yields_of (d:=65) rfl t15];rfl,fun K hK=>?_⟩
  have HK:=Zq1 hK;clear hK hfr hdep;have CW:=Zq1 (refSame_true (withP 4 wkAL) aA aB aC aD aE aF aG aH aI aJ aK aL nA nl nc none 0 0 rA rl rc none 0 0 W (HA.out.ext hB) hp rfl);have HP_:=Zq1 hp;clear hp;go_simp;refine CW.out.mono ?_;rintro e v ⟨rfl,hb⟩;exact HK.out _ _ hb ((S25.out _ _).2 rfl)
 case o26=>
  intro b W hB hfr hdep;have t15:=(S15.out _ _).1 (hdep 15 rfl 65 rfl);have e15:b.tmps[65]?.getD undef=.bool true:=by rw[← Array.getD_eq_getD_getElem?];exact t15
  have t25:=(S25.out _ _).1 (hdep 25 rfl 75 rfl);have e25:b.tmps[75]?.getD undef=.bool true:=by rw[← Array.getD_eq_getD_getElem?];exact t25
  refine⟨rfl,fun K hK=>?_⟩
  have HK:=Zq1 hK;clear hK hfr hdep;go_simp;exact HK.out _ _ (Below.refl _ _) ((S26.out _ _).2 rfl)
 case o27=>
  intro b W hB hfr hdep;have t26:=(S26.out _ _).1 (hdep 26 rfl 76 rfl);have e26:b.tmps[76]?.getD undef=.bool true:=by rw[← Array.getD_eq_getD_getElem?];exact t26
  refine⟨rfl,fun K hK=>?_⟩
  have HK:=Zq1 hK;clear hK hfr hdep;go_simp;exact HK.out _ _ (Below.refl _ _) ((S27.out _ _).2 rfl)
 case o28=>
  intro b W hB hfr hdep;have r4:b.tmps.getD 4 undef=.pointer (some ⟨w6.heap.size,0,none⟩):=(hfr 4 (by decide)).trans rfl;have r4':b.tmps[4]?.getD undef=.pointer (some ⟨w6.heap.size,0,none⟩):=by rw[← Array.getD_eq_getD_getElem?];exact r4
  have t27:=(S27.out _ _).1 (hdep 27 rfl 77 rfl);have e27:b.tmps[77]?.getD undef=.bool true:=by rw[← Array.getD_eq_getD_getElem?];exact t27
  refine⟨by show (yielded _ b.tmps 27==some true)=true;rw[yields_of (d:=77) rfl t27];rfl,fun K hK=>?_⟩
  have HK:=Zq1 hK;clear hK hfr hdep;have hxc:=BD.out.bel hB
  obtain⟨p0,p1,p2,p3,p4,p5⟩:=pcells hxc
  clear hxc;go_simp;exact HK.out _ _ (Below.refl _ _) ((S28.out _ _).2 rfl)
 case o29=>
  intro b W hB hfr hdep;have t27:=(S27.out _ _).1 (hdep 27 rfl 77 rfl);have e27:b.tmps[77]?.getD undef=.bool true:=by rw[← Array.getD_eq_getD_getElem?];exact t27
  refine⟨by show (yielded _ b.tmps 27==some true)=true;rw[yields_of (d:=77) rfl t27];rfl,fun K hK=>?_⟩
  have HK:=Zq1 hK;clear hK hfr hdep;go_simp;exact HK.out _ _ (bel_alloc _ _) ((S29.out _ _).2 (ints_at22 [6] (Blk.new W 3 #[.int .i64 6]) rfl (by simp) (by simp[I64])))
 case o30=>
  intro b W hB hfr hdep;have t27:=(S27.out _ _).1 (hdep 27 rfl 77 rfl);have e27:b.tmps[77]?.getD undef=.bool true:=by rw[← Array.getD_eq_getD_getElem?];exact t27
  refine⟨by show (yielded _ b.tmps 27==some true)=true;rw[yields_of (d:=77) rfl t27];rfl,fun K hK=>?_⟩
  have HK:=Zq1 hK;clear hK hfr hdep;go_simp;exact HK.out _ _ (bel_alloc _ _) ((S30.out _ _).2 (ints_at22 [4,-5] (Blk.new W 3 #[.int .i64 4,.int .i64 (-5)]) rfl (by simp) (by simp[I64])))
 case o31=>
  intro b W hB hfr hdep;have t27:=(S27.out _ _).1 (hdep 27 rfl 77 rfl);have e27:b.tmps[77]?.getD undef=.bool true:=by rw[← Array.getD_eq_getD_getElem?];exact t27
  refine⟨by show (yielded _ b.tmps 27==some true)=true;rw[yields_of (d:=77) rfl t27];rfl,fun K hK=>?_⟩
  have HK:=Zq1 hK;clear hK hfr hdep;go_simp;exact HK.out _ _ (bel_alloc _ _) ((S31.out _ _).2 (ints_at22 [1,1] (Blk.new W 3 #[.int .i64 1,.int .i64 1]) rfl (by simp) (by simp[I64])))
 case o32=>
  intro b W hB hfr hdep;have t29:=(S29.out _ _).1 (hdep 29 rfl 79 rfl)
  obtain⟨A29,l29,c29,t29,h29⟩:=t29
  replace t29:=(List.cons.inj t29).1;have e29:b.tmps[79]?.getD undef=.slice A29 l29 c29:=by rw[← Array.getD_eq_getD_getElem?];exact t29
  have t30:=(S30.out _ _).1 (hdep 30 rfl 80 rfl)
  obtain⟨A30,l30,c30,t30,h30⟩:=t30
  replace t30:=(List.cons.inj t30).1;have e30:b.tmps[80]?.getD undef=.slice A30 l30 c30:=by rw[← Array.getD_eq_getD_getElem?];exact t30
  have t31:=(S31.out _ _).1 (hdep 31 rfl 81 rfl)
  obtain⟨A31,l31,c31,t31,h31⟩:=t31
  replace t31:=(List.cons.inj t31).1;have e31:b.tmps[81]?.getD undef=.slice A31 l31 c31:=by rw[← Array.getD_eq_getD_getElem?];exact t31
  have t27:=(S27.out _ _).1 (hdep 27 rfl 77 rfl);have e27:b.tmps[77]?.getD undef=.bool true:=by rw[← Array.getD_eq_getD_getElem?];exact t27
  refine⟨by show (yielded _ b.tmps 27==some true)=true;rw[yields_of (d:=77) rfl t27];rfl,fun K hK=>?_⟩
  have HK:=Zq1 hK;clear hK hfr hdep;have H29_:=Zq1 h29;clear h29;have H30_:=Zq1 h30;clear h30;have H31_:=Zq1 h31;clear h31;go_simp;exact HK.out _ _ (Below.refl _ _) ((S32.out _ _).2 ⟨_,_,_,rfl,⟨_,_,_,rfl,H29_.out⟩,⟨_,_,_,rfl,H30_.out⟩,⟨_,_,_,rfl,H31_.out⟩⟩)
 case o33=>
  intro b W hB hfr hdep;have t27:=(S27.out _ _).1 (hdep 27 rfl 77 rfl);have e27:b.tmps[77]?.getD undef=.bool true:=by rw[← Array.getD_eq_getD_getElem?];exact t27
  refine⟨by show (yielded _ b.tmps 27==some true)=true;rw[yields_of (d:=77) rfl t27];rfl,fun K hK=>?_⟩
  have HK:=Zq1 hK;clear hK hfr hdep;go_simp;exact HK.out _ _ (bel_alloc _ _) ((S33.out _ _).2 (ints_at22 [1] (Blk.new W 3 #[.int .i64 1]) rfl (by simp) (by simp[I64])))
 case o34=>
  intro b W hB hfr hdep;have t27:=(S27.out _ _).1 (hdep 27 rfl 77 rfl);have e27:b.tmps[77]?.getD undef=.bool true:=by rw[← Array.getD_eq_getD_getElem?];exact t27
  refine⟨by show (yielded _ b.tmps 27==some true)=true;rw[yields_of (d:=77) rfl t27];rfl,fun K hK=>?_⟩
  have HK:=Zq1 hK;clear hK hfr hdep;go_simp;exact HK.out _ _ (bel_alloc _ _) ((S34.out _ _).2 (ints_at22 [-2,-3,6] (Blk.new W 3 #[.int .i64 (-2),.int .i64 (-3),.int .i64 6]) rfl (by simp) (by simp[I64])))
 case o35=>
  intro b W hB hfr hdep;have t33:=(S33.out _ _).1 (hdep 33 rfl 83 rfl)
  obtain⟨A33,l33,c33,t33,h33⟩:=t33
  replace t33:=(List.cons.inj t33).1;have e33:b.tmps[83]?.getD undef=.slice A33 l33 c33:=by rw[← Array.getD_eq_getD_getElem?];exact t33
  have t34:=(S34.out _ _).1 (hdep 34 rfl 84 rfl)
  obtain⟨A34,l34,c34,t34,h34⟩:=t34
  replace t34:=(List.cons.inj t34).1;have e34:b.tmps[84]?.getD undef=.slice A34 l34 c34:=by rw[← Array.getD_eq_getD_getElem?];exact t34
  have t27:=(S27.out _ _).1 (hdep 27 rfl 77 rfl);have e27:b.tmps[77]?.getD undef=.bool true:=by rw[← Array.getD_eq_getD_getElem?];exact t27
  refine⟨by show (yielded _ b.tmps 27==some true)=true;rw[yields_of (d:=77) rfl t27];rfl,fun K hK=>?_⟩
  have HK:=Zq1 hK;clear hK hfr hdep;have H33_:=Zq1 h33;clear h33;have H34_:=Zq1 h34;clear h34;go_simp;exact HK.out _ _ (Below.refl _ _) ((S35.out _ _).2 ⟨_,_,_,rfl,⟨_,_,_,rfl,H33_.out⟩,⟨_,_,_,rfl,H34_.out⟩,ints_nil _⟩)
 case o36=>
  intro b W hB hfr hdep;have t27:=(S27.out _ _).1 (hdep 27 rfl 77 rfl);have e27:b.tmps[77]?.getD undef=.bool true:=by rw[← Array.getD_eq_getD_getElem?];exact t27
  refine⟨by show (yielded _ b.tmps 27==some true)=true;rw[yields_of (d:=77) rfl t27];rfl,fun K hK=>?_⟩
  have HK:=Zq1 hK;clear hK hfr hdep;go_simp;exact HK.out _ _ (bel_alloc _ _) ((S36.out _ _).2 (ints_at22 [2] (Blk.new W 3 #[.int .i64 2]) rfl (by simp) (by simp[I64])))
 case o37=>
  intro b W hB hfr hdep;have t27:=(S27.out _ _).1 (hdep 27 rfl 77 rfl);have e27:b.tmps[77]?.getD undef=.bool true:=by rw[← Array.getD_eq_getD_getElem?];exact t27
  refine⟨by show (yielded _ b.tmps 27==some true)=true;rw[yields_of (d:=77) rfl t27];rfl,fun K hK=>?_⟩
  have HK:=Zq1 hK;clear hK hfr hdep;go_simp;exact HK.out _ _ (bel_alloc _ _) ((S37.out _ _).2 (ints_at22 [-1,-3,6] (Blk.new W 3 #[.int .i64 (-1),.int .i64 (-3),.int .i64 6]) rfl (by simp) (by simp[I64])))
 case o38=>
  intro b W hB hfr hdep;have t36:=(S36.out _ _).1 (hdep 36 rfl 86 rfl)
  obtain⟨A36,l36,c36,t36,h36⟩:=t36
  replace t36:=(List.cons.inj t36).1;have e36:b.tmps[86]?.getD undef=.slice A36 l36 c36:=by rw[← Array.getD_eq_getD_getElem?];exact t36
  have t37:=(S37.out _ _).1 (hdep 37 rfl 87 rfl)
  obtain⟨A37,l37,c37,t37,h37⟩:=t37
  replace t37:=(List.cons.inj t37).1;have e37:b.tmps[87]?.getD undef=.slice A37 l37 c37:=by rw[← Array.getD_eq_getD_getElem?];exact t37
  have t27:=(S27.out _ _).1 (hdep 27 rfl 77 rfl);have e27:b.tmps[77]?.getD undef=.bool true:=by rw[← Array.getD_eq_getD_getElem?];exact t27
  refine⟨by show (yielded _ b.tmps 27==some true)=true;rw[yields_of (d:=77) rfl t27];rfl,fun K hK=>?_⟩
  have HK:=Zq1 hK;clear hK hfr hdep;have H36_:=Zq1 h36;clear h36;have H37_:=Zq1 h37;clear h37;go_simp;exact HK.out _ _ (Below.refl _ _) ((S38.out _ _).2 ⟨_,_,_,rfl,⟨_,_,_,rfl,H36_.out⟩,⟨_,_,_,rfl,H37_.out⟩,ints_nil _⟩)
 case o39=>
  intro b W hB hfr hdep;have t27:=(S27.out _ _).1 (hdep 27 rfl 77 rfl);have e27:b.tmps[77]?.getD undef=.bool true:=by rw[← Array.getD_eq_getD_getElem?];exact t27
  refine⟨by show (yielded _ b.tmps 27==some true)=true;rw[yields_of (d:=77) rfl t27];rfl,fun K hK=>?_⟩
  have HK:=Zq1 hK;clear hK hfr hdep;go_simp;exact HK.out _ _ (bel_alloc _ _) ((S39.out _ _).2 (ints_at22 [3] (Blk.new W 3 #[.int .i64 3]) rfl (by simp) (by simp[I64])))
 case o40=>
  intro b W hB hfr hdep;have t27:=(S27.out _ _).1 (hdep 27 rfl 77 rfl);have e27:b.tmps[77]?.getD undef=.bool true:=by rw[← Array.getD_eq_getD_getElem?];exact t27
  refine⟨by show (yielded _ b.tmps 27==some true)=true;rw[yields_of (d:=77) rfl t27];rfl,fun K hK=>?_⟩
  have HK:=Zq1 hK;clear hK hfr hdep;go_simp;exact HK.out _ _ (bel_alloc _ _) ((S40.out _ _).2 (ints_at22 [-1,-2,6] (Blk.new W 3 #[.int .i64 (-1),.int .i64 (-2),.int .i64 6]) rfl (by simp) (by simp[I64])))
 case o41=>
  intro b W hB hfr hdep;have t39:=(S39.out _ _).1 (hdep 39 rfl 89 rfl)
  obtain⟨A39,l39,c39,t39,h39⟩:=t39
  replace t39:=(List.cons.inj t39).1;have e39:b.tmps[89]?.getD undef=.slice A39 l39 c39:=by rw[← Array.getD_eq_getD_getElem?];exact t39
  have t40:=(S40.out _ _).1 (hdep 40 rfl 90 rfl)
  obtain⟨A40,l40,c40,t40,h40⟩:=t40
  replace t40:=(List.cons.inj t40).1;have e40:b.tmps[90]?.getD undef=.slice A40 l40 c40:=by rw[← Array.getD_eq_getD_getElem?];exact t40
  have t27:=(S27.out _ _).1 (hdep 27 rfl 77 rfl);have e27:b.tmps[77]?.getD undef=.bool true:=by rw[← Array.getD_eq_getD_getElem?];exact t27
  refine⟨by show (yielded _ b.tmps 27==some true)=true;rw[yields_of (d:=77) rfl t27];rfl,fun K hK=>?_⟩
  have HK:=Zq1 hK;clear hK hfr hdep;have H39_:=Zq1 h39;clear h39;have H40_:=Zq1 h40;clear h40;go_simp;exact HK.out _ _ (Below.refl _ _) ((S41.out _ _).2 ⟨_,_,_,rfl,⟨_,_,_,rfl,H39_.out⟩,⟨_,_,_,rfl,H40_.out⟩,ints_nil _⟩)
 case o42=>
  intro b W hB hfr hdep;have t32:=(S32.out _ _).1 (hdep 32 rfl 82 rfl)
  obtain⟨_,_,_,t32,⟨A32,l32,c32,x1,h32⟩,⟨A32b,l32b,c32b,x2,h32b⟩,⟨A32c,l32c,c32c,x3,h32c⟩⟩:=t32
  cases x1;cases x2;cases x3;have e32:b.tmps[82]?.getD undef=.agg #[.bool false,.slice A32 l32 c32,.bool true,.int .i64 2,.slice A32b l32b c32b,.slice A32c l32c c32c]:=by rw[← Array.getD_eq_getD_getElem?];exact t32
  have t35:=(S35.out _ _).1 (hdep 35 rfl 85 rfl)
  obtain⟨_,_,_,t35,⟨A35,l35,c35,x1,h35⟩,⟨A35b,l35b,c35b,x2,h35b⟩,⟨A35c,l35c,c35c,x3,h35c⟩⟩:=t35
  cases x1;cases x2;cases x3;have e35:b.tmps[85]?.getD undef=.agg #[.bool false,.slice A35 l35 c35,.bool false,.int .i64 0,.slice A35b l35b c35b,.slice A35c l35c c35c]:=by rw[← Array.getD_eq_getD_getElem?];exact t35
  have t38:=(S38.out _ _).1 (hdep 38 rfl 88 rfl)
  obtain⟨_,_,_,t38,⟨A38,l38,c38,x1,h38⟩,⟨A38b,l38b,c38b,x2,h38b⟩,⟨A38c,l38c,c38c,x3,h38c⟩⟩:=t38
  cases x1;cases x2;cases x3;have e38:b.tmps[88]?.getD undef=.agg #[.bool false,.slice A38 l38 c38,.bool false,.int .i64 0,.slice A38b l38b c38b,.slice A38c l38c c38c]:=by rw[← Array.getD_eq_getD_getElem?];exact t38
  have t41:=(S41.out _ _).1 (hdep 41 rfl 91 rfl)
  obtain⟨_,_,_,t41,⟨A41,l41,c41,x1,h41⟩,⟨A41b,l41b,c41b,x2,h41b⟩,⟨A41c,l41c,c41c,x3,h41c⟩⟩:=t41
  cases x1;cases x2;cases x3;have e41:b.tmps[91]?.getD undef=.agg #[.bool false,.slice A41 l41 c41,.bool false,.int .i64 0,.slice A41b l41b c41b,.slice A41c l41c c41c]:=by rw[← Array.getD_eq_getD_getElem?];exact t41
  have t27:=(S27.out _ _).1 (hdep 27 rfl 77 rfl);have e27:b.tmps[77]?.getD undef=.bool true:=by rw[← Array.getD_eq_getD_getElem?];exact t27
  refine⟨by show (yielded _ b.tmps 27==some true)=true;rw[yields_of (d:=77) rfl t27];rfl,fun K hK=>?_⟩
  have HK:=Zq1 hK;clear hK hfr hdep;have H32_:=Zq1 h32;clear h32;have H32B_:=Zq1 h32b;clear h32b;have H32C_:=Zq1 h32c;clear h32c;have H35_:=Zq1 h35;clear h35;have H35B_:=Zq1 h35b;clear h35b;have H35C_:=Zq1 h35c;clear h35c;have H38_:=Zq1 h38;clear h38;have H38B_:=Zq1 h38b;clear h38b;have H38C_:=Zq1 h38c;clear h38c;have H41_:=Zq1 h41;clear h41;have H41B_:=Zq1 h41b;clear h41b;have H41C_:=Zq1 h41c;clear h41c;go_simp;exact HK.out _ _ (bel_alloc _ _) ((S42.out _ _).2 ⟨_,_,_,rfl,sl_rulesAt (cs:=[.bool false,.slice A32 l32 c32,.bool true,.int .i64 2,.slice A32b l32b c32b,.slice A32c l32c c32c,.bool false,.slice A35 l35 c35,.bool false,.int .i64 0,.slice A35b l35b c35b,.slice A35c l35c c35c,.bool false,.slice A38 l38 c38,.bool false,.int .i64 0,.slice A38b l38b c38b,.slice A38c l38c c38c,.bool false,.slice A41 l41 c41,.bool false,.int .i64 0,.slice A41b l41b c41b,.slice A41c l41c c41c]) (Blk.new W 42 #[.bool false,.slice A32 l32 c32,.bool true,.int .i64 2,.slice A32b l32b c32b,.slice A32c l32c c32c,.bool false,.slice A35 l35 c35,.bool false,.int .i64 0,.slice A35b l35b c35b,.slice A35c l35c c35c,.bool false,.slice A38 l38 c38,.bool false,.int .i64 0,.slice A38b l38b c38b,.slice A38c l38c c38c,.bool false,.slice A41 l41 c41,.bool false,.int .i64 0,.slice A41b l41b c41b,.slice A41c l41c c41c]) ⟨rfl,⟨_,_,_,rfl,H32_.out.ext (bel_alloc _ _)⟩,rfl,rfl,by simp[I64],⟨_,_,_,rfl,H32B_.out.ext (bel_alloc _ _)⟩,⟨_,_,_,rfl,H32C_.out.ext (bel_alloc _ _)⟩,rfl,⟨_,_,_,rfl,H35_.out.ext (bel_alloc _ _)⟩,rfl,rfl,by simp[I64],⟨_,_,_,rfl,H35B_.out.ext (bel_alloc _ _)⟩,⟨_,_,_,rfl,H35C_.out.ext (bel_alloc _ _)⟩,rfl,⟨_,_,_,rfl,H38_.out.ext (bel_alloc _ _)⟩,rfl,rfl,by simp[I64],⟨_,_,_,rfl,H38B_.out.ext (bel_alloc _ _)⟩,⟨_,_,_,rfl,H38C_.out.ext (bel_alloc _ _)⟩,rfl,⟨_,_,_,rfl,H41_.out.ext (bel_alloc _ _)⟩,rfl,rfl,by simp[I64],⟨_,_,_,rfl,H41B_.out.ext (bel_alloc _ _)⟩,⟨_,_,_,rfl,H41C_.out.ext (bel_alloc _ _)⟩,trivial⟩ rfl (by simp)⟩)
 case o43=>
  intro b W hB hfr hdep;have t42:=(S42.out _ _).1 (hdep 42 rfl 92 rfl)
  obtain⟨A42,l42,c42,t42,h42⟩:=t42
  have e42:b.tmps[92]?.getD undef=.slice A42 l42 c42:=by rw[← Array.getD_eq_getD_getElem?];exact t42
  have t27:=(S27.out _ _).1 (hdep 27 rfl 77 rfl);have e27:b.tmps[77]?.getD undef=.bool true:=by rw[← Array.getD_eq_getD_getElem?];exact t27
  refine⟨by show (yielded _ b.tmps 27==some true)=true;rw[yields_of (d:=77) rfl t27];rfl,fun K hK=>?_⟩
  have HK:=Zq1 hK;clear hK hfr hdep;have CW:=Zq1 (withI A42 l42 c42 wkBL 6 6 rfl W h42 (by omega));have H42_:=Zq1 h42;clear h42;go_simp;refine CW.out.mono ?_;rintro e v ⟨nA,nl,nc,rfl,hp,hb⟩;exact HK.out _ _ hb ((S43.out _ _).2 ⟨_,_,_,_,_,_,rfl,hp⟩)
 case o44=>
  intro b W hB hfr hdep;have t28:=(S28.out _ _).1 (hdep 28 rfl 78 rfl);have e28:b.tmps[78]?.getD undef=.agg #[.int .i64 (withP 6 wkBL).n,.slice dA dB dC,.slice dD dE dF,.slice dG dH dI,.slice dJ dK dL]:=by rw[← Array.getD_eq_getD_getElem?];exact t28
  have t43:=(S43.out _ _).1 (hdep 43 rfl 93 rfl)
  obtain⟨nA,nl,nc,rA,rl,rc,t43,hp⟩:=t43
  have e43:b.tmps[93]?.getD undef=.agg #[.int .i64 (withP 6 wkBL).n,.slice nA nl nc,.slice none 0 0,.slice rA rl rc,.slice none 0 0]:=by rw[← Array.getD_eq_getD_getElem?];exact t43
  have t27:=(S27.out _ _).1 (hdep 27 rfl 77 rfl);have e27:b.tmps[77]?.getD undef=.bool true:=by rw[← Array.getD_eq_getD_getElem?];exact t27
  refine⟨by show (yielded _ b.tmps 27==some true)=true;rw[yields_of (d:=77) rfl t27];rfl,fun K hK=>?_⟩
  have HK:=Zq1 hK;clear hK hfr hdep;have CW:=Zq1 (refSame_true (withP 6 wkBL) dA dB dC dD dE dF dG dH dI dJ dK dL nA nl nc none 0 0 rA rl rc none 0 0 W (HD.out.ext hB) hp rfl);have HP_:=Zq1 hp;clear hp;go_simp;refine CW.out.mono ?_;rintro e v ⟨rfl,hb⟩;exact HK.out _ _ hb ((S44.out _ _).2 rfl)
 case o45=>
  intro b W hB hfr hdep;have t27:=(S27.out _ _).1 (hdep 27 rfl 77 rfl);have e27:b.tmps[77]?.getD undef=.bool true:=by rw[← Array.getD_eq_getD_getElem?];exact t27
  have t44:=(S44.out _ _).1 (hdep 44 rfl 94 rfl);have e44:b.tmps[94]?.getD undef=.bool true:=by rw[← Array.getD_eq_getD_getElem?];exact t44
  refine⟨rfl,fun K hK=>?_⟩
  have HK:=Zq1 hK;clear hK hfr hdep;go_simp;exact HK.out _ _ (Below.refl _ _) ((S45.out _ _).2 rfl)
 case o46=>
  intro b W hB hfr hdep;have t45:=(S45.out _ _).1 (hdep 45 rfl 95 rfl);have e45:b.tmps[95]?.getD undef=.bool true:=by rw[← Array.getD_eq_getD_getElem?];exact t45
  refine⟨rfl,fun K hK=>?_⟩
  have HK:=Zq1 hK;clear hK hfr hdep;go_simp;exact HK.out _ _ (Below.refl _ _) ((S46.out _ _).2 rfl)
 case fin=>
  intro b W hdf hB hfr hsp;have t0:=(S46.out _ _).1 (hsp 46 0 rfl);have e0:b.tmps[0]?.getD undef=.bool true:=by rw[← Array.getD_eq_getD_getElem?];exact t0
  have HBB:=Zq1 (bel_trans HW11.out hB);clear hB hfr hsp;go_wp2_with fail;refine bodyPost_ret (results_tmp (t:=0) rfl b.tmps _ W) hdf ?_
  exact⟨congrArg Ending.returned t0,HBB.out⟩

/- Lss -/
import Derived.Test.YthdjkenhkedjjaaGreatFn2
import Derived.Test.YthdjkenhkedjjaaGreatShb
set_option maxRecDepth 100000
set_option maxHeartbeats 8000000
namespace Go.Proofs.YthdjkenhkedjjaaGreat
open Go.RowKit
theorem cut_take2 {p:GProg}{m:LI}{j:Nat}{a:Int}(h:m[j]? = some a):cutL p (m.take (j+1))=cutL p (m.take j)++(if a≤p.n then[a]else[]):=by
 unfold cutL;rw[List.take_add_one,h,List.filter_append]
 congr 1
 by_cases ha:a≤p.n
 ·rw[if_pos ha];simp[ha]
 ·rw[if_neg ha];simp[ha]
theorem sf_smallP {p:GProg}(hs:smallB p=true)(hso:SfOk p)(h9:(sfP p).n≤9):SmallP (sfP p):=by
 obtain⟨hf,h6,hv⟩:=small_is hs
 have hi:=validE_is hv;have h0:=(namedB_n hi.named).1;have hsi:=sf_is hi hso;have h1:=(namedB_n hsi.named).1
 refine⟨hsi,h1,by omega,?_⟩
 have hr:p.rules.length≤16:=by
  unfold fewB at hf;simp only[Bool.and_eq_true,decide_eq_true_eq]at hf;omega
 have h2:=sfL_len (N:=12) p.rules p.n fun r hm=>by
  have:=inc_lenN h0 (hi.rules r hm).head;omega
 have h3:(12+1)*p.rules.length≤13*16:=Nat.mul_le_mul (by omega) hr;rw[sf_rules,List.length_map];omega
theorem shiftStable_any (p:GProg)(nA:OA)(nl nc:Nat)(sA:OA)(sl sc:Nat)(rA:OA)(rl rc:Nat)(mA:OA)(ml mc:Nat)(w:World)(hp:ProgIn w p nA nl nc sA sl sc rA rl rc mA ml mc):
  Calls Tryz.prog 10 #[.agg #[.int .i64 p.n,.slice nA nl nc,.slice sA sl sc,.slice rA rl rc,.slice mA ml mc]] w fun e w'=>e=.returned (.bool true)∧Below w.heap.size w w':=by
 have cA:=awake22_any;have bW:=bel_alloc w (.cells #[.int .i64 p.n,.slice nA nl nc,.slice sA sl sc,.slice rA rl rc,.slice mA ml mc] 27);have bP:Blk (w.alloc (.cells #[.int .i64 p.n,.slice nA nl nc,.slice sA sl sc,.slice rA rl rc,.slice mA ml mc] 27)) w.heap.size 27 #[.int .i64 p.n,.slice nA nl nc,.slice sA sl sc,.slice rA rl rc,.slice mA ml mc]:=blk_new rfl _ _
 cases hs:smallB p with
 |false=>
  have cN:=fun W (hb:Below w.heap.size w W)=>fine22_no p nA nl nc sA sl sc rA rl rc mA ml mc W (hp.ext hb) hs
  obtain⟨HP,CA,BW,BP,HS,CN⟩:=Zq6 hp cA bW bP hs cN;clear hp cA bW bP hs cN
  go_enter Tryz.func10,Tryz.ntmps10;go_wp2_with fail;go_fit (CN.out _ BW.out);rintro e w1 ⟨rfl,hb⟩;have HBL:=Zq1 (bel_trans BW.out (bel_trans hb (bel_alloc w1 (.cells #[.int .i64 0,.slice none 0 0,.slice none 0 0,.slice none 0 0,.slice none 0 0] 27))));clear hb;go_wp2_with fail;go_fit (CA.out _);rintro e wz ⟨rfl,hbz⟩;have HBZ:=Zq1 (bel_trans HBL.out hbz);clear hbz;go_wp2_with fail;go_ret
  exact⟨rfl,HBZ.out⟩
 |true=>
  obtain⟨hf,hn6,hv⟩:=small_is hs
  have hpi:=validE_is hv;have hnn:=namedB_n hpi.named
  have hfr16:p.rules.length≤16:=by
   unfold fewB at hf;simp only[Bool.and_eq_true,decide_eq_true_eq]at hf;omega
  have hso:=sf_small hpi (by omega) (by omega)
  cases hfr:freeB p with
  |false=>
   have cN:=fun W (hb:Below w.heap.size w W)=>fine22_err p nA nl nc sA sl sc rA rl rc mA ml mc W (hp.ext hb) hs hfr
   obtain⟨HP,CA,BW,BP,HS,CN,HF,HN6,HV,HPI,HFR16,HSO⟩:=Zq12 hp cA bW bP hs cN hf hn6 hv hpi hfr16 hso;clear hp cA bW bP hs cN hf hn6 hv hpi hfr16 hso
   obtain⟨HFR,HNN⟩:=Zq2 hfr hnn;clear hfr hnn
   go_enter Tryz.func10,Tryz.ntmps10;go_wp2_with fail;go_fit (CN.out _ BW.out);rintro e w1 ⟨rfl,hb⟩;have HBL:=Zq1 (bel_trans BW.out (bel_trans hb (bel_alloc w1 (.cells #[.int .i64 0,.slice none 0 0,.slice none 0 0,.slice none 0 0,.slice none 0 0] 27))));clear hb;go_wp2_with fail;go_fit (CA.out _);rintro e wz ⟨rfl,hbz⟩;have HBZ:=Zq1 (bel_trans HBL.out hbz);clear hbz;go_wp2_with fail;go_ret
   exact⟨rfl,HBZ.out⟩
  |true=>
   have cN:=fun W (hb:Below w.heap.size w W)=>fine22_yes p nA nl nc sA sl sc rA rl rc mA ml mc W (hp.ext hb) hs hfr
   by_cases h9:(sfP p).n≤9
   ·rw[decide_eq_true h9]at cN;have hsmp:=small_P hs;have hsmq:=sf_smallP hs hso h9;have hvq:=ex_validE hsmq.is;have hlen:=stable_len hpi hfr hso;have hlift:=fun m (hm:m∈allL p)=>stable_lift hpi hfr hso hm;have hcut:=fun m (hm:m∈allL (sfP p))=>stable_cut hpi hso hm;have hmem:=all_mem p hnn.1;have cAl:=fun W (hb:Below w.heap.size w W)=>all_any p nA nl nc sA sl sc rA rl rc mA ml mc W (hp.ext hb) hv hsmp;have cL:=fun A l c m W (hb:Below w.heap.size w W) (hx:SlIs intR W A l c m) (hi:incB p.n m=true)=>lift_any p nA nl nc sA sl sc rA rl rc mA ml mc A l c m W (hp.ext hb) hx hv hfr hso hi
    obtain⟨HP,CA,BW,BP,HS,CN,HF,HN6,HV,HPI,HFR16,HSO⟩:=Zq12 hp cA bW bP hs cN hf hn6 hv hpi hfr16 hso;clear hp cA bW bP hs cN hf hn6 hv hpi hfr16 hso
    obtain⟨HFR,HNN,H9,HSMP,HSMQ,HVQ,HLEN,HLIFT,HCUT,HMEM,CAL,CL⟩:=Zq12 hfr hnn h9 hsmp hsmq hvq hlen hlift hcut hmem cAl cL;clear hfr hnn h9 hsmp hsmq hvq hlen hlift hcut hmem cAl cL
    go_enter Tryz.func10,Tryz.ntmps10;go_wp2_with fail;go_fit (CN.out _ BW.out);rintro e w1 ⟨nE,lE,cE,sE,kE,dE,rE,mE,fE,tE,iE,jE,rfl,hP,hb'⟩;have hb:=bel_trans hb' (bel_alloc w1 (.cells #[.int .i64 (sfP p).n,.slice nE lE cE,.slice sE kE dE,.slice rE mE fE,.slice tE iE jE] 27));have hbp:=BP.out.bel hb;have hbq:Blk (w1.alloc (.cells #[.int .i64 (sfP p).n,.slice nE lE cE,.slice sE kE dE,.slice rE mE fE,.slice tE iE jE] 27)) w1.heap.size 27 #[.int .i64 (sfP p).n,.slice nE lE cE,.slice sE kE dE,.slice rE mE fE,.slice tE iE jE]:=blk_new rfl _ _;have hP2:=hP.ext (bel_alloc w1 (.cells #[.int .i64 (sfP p).n,.slice nE lE cE,.slice sE kE dE,.slice rE mE fE,.slice tE iE jE] 27));have hw2:=bel_trans BW.out hb;clear hb hb' hP
    obtain⟨p0,p1,p2,p3,p4,p5⟩:=pcells hbp
    obtain⟨HBP,HBQ,HP2,HW2⟩:=Zq4 hbp hbq hP2 hw2;clear hbp hbq hP2 hw2
    go_wp2_with fail;clear p0 p1 p2 p3 p4 p5;generalize w1.alloc (.cells #[.int .i64 (sfP p).n,.slice nE lE cE,.slice sE kE dE,.slice rE mE fE,.slice tE iE jE] 27)=w2 at *;generalize w1.heap.size=gq at *;go_fit (CAL.out w2 HW2.out);rintro e w3 ⟨lA,ll,lc,rfl,hL,hb⟩;have hbp:=HBP.out.bel hb;have hbq:=HBQ.out.bel hb;have hP3:=HP2.out.ext hb;have hw3:=bel_trans HW2.out hb;clear hb HBP HBQ HP2 HW2
    obtain⟨p0,p1,p2,p3,p4,p5⟩:=pcells hbq
    obtain⟨HBP,HBQ,HP3,HW3,HL⟩:=Zq5 hbp hbq hP3 hw3 hL;clear hbp hbq hP3 hw3 hL
    go_wp2_with fail;clear p0 p1 p2 p3 p4 p5;go_fit (all_any (sfP p) nE lE cE sE kE dE rE mE fE tE iE jE w3 HP3.out HVQ.out HSMQ.out);rintro e w4 ⟨kA,kl,kc,rfl,hK,hb⟩;have hbp:=HBP.out.bel hb;have hw4:=bel_trans HW3.out hb;have hL4:=HL.out.ext hb;clear hb HBP HBQ HP3 HW3 HL;obtain rfl:ll=kl:=(by rw[hL4.len,hK.len];exact HLEN.out);have hLc:=hL4.cap;have hLm:=hL4.max;have hKc:=hK.cap
    obtain⟨HBP,HW4,HL4,HK⟩:=Zq4 hbp hw4 hL4 hK;clear hbp hw4 hL4 hK
    go_wp2_with fail;go_loopw [53] (fun t wr=>∃i:Nat,i≤ll∧t=.int .i64 (i:Int)∧Below w4.heap.size w4 wr) (fun t _=>ll-(intOf t).toNat)
    case atStart=>exact⟨0,Nat.zero_le _,rfl,Below.refl _ _⟩
    case round=>
     obtain⟨i,hi,rfl,hbw⟩:=hrel
     obtain⟨wo,rfl⟩:∃wo:World,wo=wr:=⟨_,rfl⟩
     by_cases hlt:i<ll
     ·obtain⟨m,hm,-⟩:=HL4.out.drop hlt
      obtain⟨b,off,xA,xl,xc,rfl,_,f0,g1⟩:=(HL4.out.ext hbw).set hm
      have hmm:=List.mem_of_getElem? hm;have hmi:=(HMEM.out m).1 hmm;have hlf:=HLIFT.out m hmm;have i0:(0:Int)≤(i:Int):=(by omega);have i1:(i:Int)<(ll:Int):=(by omega);have hbp:=HBP.out.bel hbw;have hwo:=bel_trans HW4.out hbw
      obtain⟨p0,p1,p2,p3,p4,p5⟩:=pcells hbp
      obtain⟨HM,HMM,HMI,HLF,HBW,HBP,HWO,G1⟩:=Zq8 hm hmm hmi hlf hbw hbp hwo g1;clear hm hmm hmi hlf hbw hbp hwo g1
      go_wp2_with fail;clear p0 p1 p2 p3 p4 p5;go_fit (CL.out xA xl xc m wo HWO.out G1.out HMI.out.1);rintro e w5 ⟨yA,yl,yc,rfl,hy,hb⟩;have hw5:=bel_trans HBW.out hb;have hK5:=HK.out.ext hw5;have cH:=hasM_any kA ll kc yA yl yc (allL (sfP p)) (liftL p m) w5 hK5 hy;rw[decide_eq_true HLF.out]at cH;clear hb
      obtain⟨HW5,HK5,HY,CH⟩:=Zq4 hw5 hK5 hy cH;clear hw5 hK5 hy cH
      go_wp2_with fail;go_fit CH.out;rintro e w6 ⟨rfl,hb⟩;have hw6:=bel_trans HW5.out hb;clear hb;have HW6:=Zq1 hw6;clear hw6;go_wp2_with fail;go_roundw;exact⟨i+1,by omega,by go_num,HW6.out⟩;simp[intOf];omega
     ·have hil:i=ll:=(by omega);subst hil;have hbp:=HBP.out.bel hbw;have hw5:=bel_trans HW4.out hbw;have hL5:=HL4.out.ext hbw;have hK5:=HK.out.ext hbw;clear HBP HW4 HL4 HK
      obtain⟨HBP,HW5,HL5,HK5,HBW⟩:=Zq5 hbp hw5 hL5 hK5 hbw;clear hbp hw5 hL5 hK5 hbw
      go_wp2_with fail;go_loopw [74] (fun t wr=>∃j:Nat,j≤i∧t=.int .i64 (j:Int)∧Below wo.heap.size wo wr) (fun t _=>i-(intOf t).toNat)
      case atStart=>exact⟨0,Nat.zero_le _,rfl,Below.refl _ _⟩
      case round=>
       obtain⟨j,hj,rfl,hbw⟩:=hrel
       obtain⟨wv,rfl⟩:∃wv:World,wv=wr:=⟨_,rfl⟩
       by_cases hlt:j<i
       ·obtain⟨m,hm,-⟩:=HK5.out.drop hlt
        obtain⟨b,off,xA,xl,xc,rfl,_,f0,g1⟩:=(HK5.out.ext hbw).set hm
        have hmm:=List.mem_of_getElem? hm
        obtain⟨hc1,hc2⟩:=HCUT.out m hmm
        have hci:=(HMEM.out _).1 hc1;have i0:(0:Int)≤(j:Int):=(by omega);have i1:(j:Int)<(i:Int):=(by omega);have hbp:=HBP.out.bel hbw;have hwv:=bel_trans HW5.out hbw;have hxc:=g1.cap;have hxm:=g1.max;have hxl:=g1.len
        have hx9:xl≤4000:=by
         have h:=((all_mem (sfP p) HSMQ.out.n0 m).1 hmm).1;have h1:=inc_lenN HSMQ.out.n0 h;have h2:=HSMQ.out.n12;omega
        have hown0:OwnB intR 3 wv wv.heap.size wv (.slice none 0 0) (cutL p (m.take 0)):=OwnB.nil (Below.refl _ _) (Nat.le_refl _) (Nat.le_refl _)
        obtain⟨HM,HMM,HC1,HC2,HCI,HBW,HBP,HWV,G1,HOWN0,HXL⟩:=Zq11 hm hmm hc1 hc2 hci hbw hbp hwv g1 hown0 hxl;clear hm hmm hc1 hc2 hci hbw hbp hwv g1 hown0 hxl
        go_wp2_with fail;go_loopw [80,15] (fun t a wr=>∃(k:Nat) (A:OA) (l c:Nat),k≤xl∧t=.int .i64 (k:Int)∧a=.slice A l c∧OwnB intR 3 wv wv.heap.size wr (.slice A l c) (cutL p (m.take k))) (fun t _ _=>xl-(intOf t).toNat)
        case atStart=>exact⟨0,none,0,0,Nat.zero_le _,rfl,rfl,HOWN0.out⟩
        case round=>
         obtain⟨k,A,l,c,hk,rfl,rfl,hob⟩:=hrel
         obtain⟨wx,rfl⟩:∃wx:World,wx=wr:=⟨_,rfl⟩
         have hbx:=hob.below
         have hlx:(cutL p (m.take k)).length≤xl:=by
          have h1:(cutL p (m.take k)).length≤(m.take k).length:=List.length_filter_le _ _;rw[List.length_take]at h1
          have:=HXL.out
          omega
         by_cases hlt:k<xl
         ·obtain⟨a,ha,-⟩:=G1.out.drop hlt
          obtain⟨b3,off3,rfl,_,f1,fi⟩:=(G1.out.ext hbx).int ha
          have n0:wx.cell? ⟨w.heap.size,0,none⟩=some (.int .i64 p.n):=(HBP.out.bel hbx).cell 0;have k0:(0:Int)≤(k:Int):=(by omega);have k1:(k:Int)<(xl:Int):=(by omega);have hct:=cut_take2 (p:=p) ha
          by_cases han:a≤p.n
          ·rw[if_pos han]at hct
           obtain⟨v',w6,hrun,own6,hg6,hat6⟩:=hob.app1 ety_int [.int .i64 a] a ⟨rfl,fi⟩ (by omega) 23
           obtain⟨l',hl'⟩:∃l',l'=(cutL p (m.take k)++[a]).length:=⟨_,rfl⟩
           obtain⟨A',c',rfl,-⟩:=own6.sl (by rw[List.length_append];simp;omega)
           rw[← hl']at hrun own6;rw[← hct]at own6
           obtain⟨HOB,HBX,HLX,HCT,HRUN,OWN6,HG6,HAT6,HL',HA,FI⟩:=Zq11 hob hbx hlx hct hrun own6 hg6 hat6 hl' ha fi;clear hob hbx hlx hct hrun own6 hg6 hat6 hl' ha fi
           go_wp2_with (at_builtin;refine wpList_append_run rfl _ _ _ rfl _ _ rfl rfl _ _ HRUN.out ?_);go_roundw;exact⟨k+1,A',l',c',by omega,by go_num,rfl,OWN6.out⟩;simp[intOf];omega
          ·rw[if_neg han,List.append_nil]at hct;rw[← hct]at hob
           obtain⟨HOB,HBX,HLX,HCT,HA,FI⟩:=Zq6 hob hbx hlx hct ha fi;clear hob hbx hlx hct ha fi
           go_wp2_with fail;go_roundw;exact⟨k+1,A,l,c,by omega,by go_num,rfl,HOB.out⟩;simp[intOf];omega
         ·have hkl:k=xl:=(by omega);subst hkl;have htk:m.take k=m:=List.take_of_length_le (by have:=HXL.out;omega);rw[htk]at hob hlx
          obtain⟨A2,c2,ev,hsl⟩:=hob.sl (by omega)
          obtain⟨l2,hl2⟩:∃l2,l2=(cutL p m).length:=⟨_,rfl⟩
          rw[← hl2]at ev hsl;injection ev with e1 e3 e2;subst e1 e2 e3;have hbp:=HBP.out.bel hbx;have hwx:=bel_trans HWV.out hbx;have hbwx:=bel_trans HBW.out hbx
          obtain⟨p0,p1,p2,p3,p4,p5⟩:=pcells hbp
          clear HBP
          obtain⟨HOB,HSL,HLX,HBX,HBP,HWX,HBWX,HTK,HL2⟩:=Zq9 hob hsl hlx hbx hbp hwx hbwx htk hl2;clear hob hsl hlx hbx hbp hwx hbwx htk hl2
          go_wp2_with fail;clear p0 p1 p2 p3 p4 p5;go_fit (CL.out A l c (cutL p m) wx HWX.out HSL.out HCI.out.1);rintro e w6 ⟨yA,yl,yc,rfl,hy,hb⟩;have hb6:=bel_trans HBWX.out hb;have hL6:=HL5.out.ext hb6;have hs6:=HSL.out.ext hb;have hx6:=(HK5.out.ext hb6);have g6:=G1.out.ext (bel_trans HBX.out hb);have cH:=hasM_any lA i lc A l c (allL p) (cutL p m) w6 hL6 hs6;rw[decide_eq_true HC1.out]at cH;rw[HC2.out]at hy;clear hb
          obtain⟨HB6,HL6,HS6,HX6,HY,CH,G6⟩:=Zq7 hb6 hL6 hs6 hx6 hy cH g6;clear hb6 hL6 hs6 hx6 hy cH g6
          go_wp2_with fail;go_fit CH.out;rintro e w7 ⟨rfl,hb⟩;have hb7:=bel_trans HB6.out hb;have cI:=lawInts_any yA yl yc xA k xc m m w7 (HY.out.ext hb) (G6.out.ext hb);rw[decide_eq_true rfl]at cI;clear hb
          obtain⟨HB7,CI⟩:=Zq2 hb7 cI;clear hb7 cI
          go_wp2_with fail;go_fit CI.out;rintro e w8 ⟨rfl,hb⟩;have hb8:=bel_trans HB7.out hb;clear hb;have HB8:=Zq1 hb8;clear hb8;go_wp2_with fail;go_roundw;exact⟨j+1,by omega,by go_num,HB8.out⟩;simp[intOf];omega
       ·have HBL:=Zq1 (bel_trans HW5.out hbw);have HBW:=Zq1 hbw;clear hbw;go_wp2_with fail;go_fit (CA.out _);rintro e wz ⟨rfl,hbz⟩;have HBZ:=Zq1 (bel_trans HBL.out hbz);clear hbz;go_wp2_with fail;go_ret
        exact⟨rfl,HBZ.out⟩
   ·rw[decide_eq_false h9]at cN
    obtain⟨HP,CA,BW,BP,HS,CN,HF,HN6,HV,HPI,HFR16,HSO⟩:=Zq12 hp cA bW bP hs cN hf hn6 hv hpi hfr16 hso;clear hp cA bW bP hs cN hf hn6 hv hpi hfr16 hso
    obtain⟨HFR,HNN,H9⟩:=Zq3 hfr hnn h9;clear hfr hnn h9
    go_enter Tryz.func10,Tryz.ntmps10;go_wp2_with fail;go_fit (CN.out _ BW.out);rintro e w1 ⟨nE,lE,cE,sE,kE,dE,rE,mE,fE,tE,iE,jE,rfl,hP,hb'⟩;have HBL:=Zq1 (bel_trans BW.out (bel_trans hb' (bel_alloc w1 (.cells #[.int .i64 (sfP p).n,.slice nE lE cE,.slice sE kE dE,.slice rE mE fE,.slice tE iE jE] 27))));clear hb' hP;go_wp2_with fail;go_fit (CA.out _);rintro e wz ⟨rfl,hbz⟩;have HBZ:=Zq1 (bel_trans HBL.out hbz);clear hbz;go_wp2_with fail;go_ret
    exact⟨rfl,HBZ.out⟩

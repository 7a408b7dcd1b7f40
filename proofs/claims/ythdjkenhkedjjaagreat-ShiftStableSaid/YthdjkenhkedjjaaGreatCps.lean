/- Cps -/
import Derived.Test.YthdjkenhkedjjaaGreatCpt
import Derived.Deep.DeepCutAuto
set_option maxRecDepth 100000
set_option maxHeartbeats 40000000
namespace Go.Proofs.YthdjkenhkedjjaaGreat
open Go.RowKit
theorem out_le {g:List (LI)}{s:TS}(h:TCo g s):s.out.length≤g.length:=by
 have hn:(s.out.map fun c=>c.headD 0).Nodup:=by
  refine List.nodup_iff_pairwise_ne.2 ?_;rw[List.pairwise_map];refine h.dis.imp_of_mem fun {c d} hc hd hcd e=>?_;have h1:=head_mem (h.inc c hc).1;have h2:=head_mem (h.inc d hd).1;rw[e]at h1;exact hcd _ h1 h2
 have:=nodup_le g.length _ hn (fun k hk=>by
  obtain⟨c,hc,rfl⟩:=List.mem_map.1 hk
  have:=h.outv c hc _ (head_mem (h.inc c hc).1)
  omega)
 simpa using this
theorem stack_le {g:List (LI)}{s:TS}(h:TOk g s):s.stack.length≤g.length:=nodup_le g.length _ h.nd (fun k hk=>by have:=h.vis k hk;omega)
theorem calls_le {g:List (LI)}{s:TS}{a:Int}{j:Nat}{rest:List (Int×Nat)}(h:TVis g s a j rest):rest.length<g.length:=by
 have h1:=h.sub.length_le;have h2:=nodup_le g.length _ h.nd (fun k hk=>by have:=h.vis k hk;omega);simp at h1;omega
theorem callL_set (a:Int)(j:Nat)(rest:List (Int×Nat)):(callL ((a,j)::rest)).set rest.length (a,(j:Int)+1)=callL ((a,j+1)::rest):=by
 rw[callL_cons,callL_cons,List.set_append_right _ _ (by rw[callL_len];exact Nat.le_refl _),callL_len,Nat.sub_self]
 rfl
theorem tUp_out (s:TS)(a:Int)(r:List (Int×Nat)):(tUp s a r).out=s.out:=by cases r <;> rfl
theorem tVisit_out (s:TS)(a:Int)(k:Nat):(tVisit s a k).out=s.out:=by unfold tVisit;split <;> rfl
theorem row_at (g:List (LI))(k:Nat)(hk:k<g.length):g[k]? = some (rowZ g (k:Int)):=by
 unfold rowZ;rw[Int.toNat_natCast,List.getD_eq_getElem?_getD,List.getElem?_eq_getElem hk];rfl
theorem OwnF.shape {w:World}{base:Nat}{v:Value}{l:Nat}{xs:List (Int×Int)}(h:OwnF w base v l xs):∃A c,v=.slice A l c:=by
 rcases h.2.2 with⟨e,h0⟩ | ⟨g,cap,cur,e,_⟩
 ·subst h0;exact⟨_,_,e⟩
 ·exact⟨_,_,e⟩
theorem tIter_succ (g:List (LI))(k:Nat)(s:TS):tIter g (k+1) s=tStep g (tIter g k s):=by rw[tIter_add];rfl
theorem nth_some {l:LI}{n a:Nat}(h:l.length=n)(ha:a<n):l[a]? = some (nthZ l (a:Int)):=by
 unfold nthZ;rw[Int.toNat_natCast,List.getD_eq_getElem?_getD,List.getElem?_eq_getElem (by omega)];rfl
theorem intC_at {l:LI}{n a:Nat}(h:l.length=n)(ha:a<n):(intC l)[a]? = some (.int .i64 (nthZ l (a:Int))):=by rw[intC_get,nth_some h ha];rfl
theorem search_any (w0:World)(n a1 a2 a3 a4 a5 a6 a7 ui ul uo B:Nat)(gA:OA)(gc:Nat)(g:List (LI))(s:TS)(sv ov:Value)(root:Nat)(w:World)
  (hg:GOk g) (hgl:g.length=n) (hs:SlIs (slR intR) w0 gA n gc g) (ht:TW w0 n a1 a2 a3 a4 a5 a6 a7 ui ul uo B gA gc [] w s sv ov) (hr:TRoot g s) (h1:1≤root) (h2:root<n) (h0:nthZ s.idx (root:Int)=0):
  Calls Tryz.prog 105 #[.int .i64 (root:Int),.pointer (some ⟨a1,0,none⟩),.pointer (some ⟨a2,0,none⟩),.pointer (some ⟨a3,0,none⟩),.pointer (some ⟨a4,0,none⟩),.pointer (some ⟨a5,0,none⟩),.pointer (some ⟨a6,0,none⟩),.pointer (some ⟨a7,0,none⟩)] w fun e w'=>
   e=.returned (.tuple #[])∧∃sv' ov',TW w0 n a1 a2 a3 a4 a5 a6 a7 ui ul uo B gA gc [] w' (tSearch g s (root:Int)) sv' ov':=by
 have hn4:n≤4001:=hgl ▸ hg.len
 obtain⟨k1,k2,k3⟩:=from_ok hr (a:=(root:Int)) (by omega) (by omega) h0
 have hlc:=hs.cap;have hlm:=hs.max;have hall:=fun k=>tIter_all hg k k1 k2 k3
 obtain⟨M,hM⟩:=exists_meas (fun(p:Value×World) (m:Nat)=>∃(s':TS) (sv ov:Value) (k:Nat),OwnF p.2 B p.1 s'.calls.length (callL s'.calls)∧TW w0 n a1 a2 a3 a4 a5 a6 a7 ui ul uo B gA gc p.1.ownBlock.toList p.2 s' sv ov∧s'=tIter g k (tFrom s (root:Int))∧tMeas g s'=m)
 have hof:OwnF (w.alloc (.cells #[.int .i64 (root:Int),.int .i64 0] 130)) B (.slice (some ⟨w.heap.size,0,none⟩) 1 1) 1 (callL [((root:Int),0)]):=OwnF.lit (x:=((root:Int),0)) ht.sz;have ht0:=((ht.more (Y:=[w.heap.size]) (fun k hk=>.inr (by simp at hk;omega))).ext (bel_alloc w (.cells #[.int .i64 (root:Int),.int .i64 0] 130))).calls [((root:Int),0)]
 obtain⟨HS,HT,HR,HG,HGL,HALL,HM,HOF,HT0,H0,K1,K2⟩:=Zq12 hs ht hr hg hgl hall hM hof ht0 h0 k1 k2;clear hs ht hr hg hgl hall hM hof ht0 h0 k1 k2
 have K3:=Zq1 k3;clear k3;go_enter Tryz.func105,Tryz.ntmps105;go_wp2_with fail;generalize w.alloc (.cells #[.int .i64 (root:Int),.int .i64 0] 130)=W1 at *;go_loopw [9] (fun cv wr=>∃(s':TS) (sv ov:Value) (k:Nat),OwnF wr B cv s'.calls.length (callL s'.calls)∧TW w0 n a1 a2 a3 a4 a5 a6 a7 ui ul uo B gA gc cv.ownBlock.toList wr s' sv ov∧s'=tIter g k (tFrom s (root:Int))) (fun cv wr=>M (cv,wr))
 case atStart=>exact⟨tFrom s (root:Int),sv,ov,0,HOF.out,HT0.out,rfl⟩
 case round=>
  obtain⟨s1,sv1,ov1,kk1,ho1,hw1,he1⟩:=hrel
  obtain⟨⟨s2,sv2,ov2,k,ho,hw,he,hmm⟩,-⟩:=HM.out (_,wr) _ ⟨s1,sv1,ov1,kk1,ho1,hw1,he1,rfl⟩
  clear ho1 hw1 he1;clear s1 sv1 ov1 kk1
  obtain⟨wo,rfl⟩:∃wo:World,wo=wr:=⟨_,rfl⟩
  obtain⟨hok,hco,hhd⟩:=HALL.out k
  rw[← he]at hok hco hhd
  match hcs:s2.calls with
  |[]=>
   rw[hcs]at ho;have hl0:callL ([]:List (Int×Nat))=[]:=rfl;rw[show ([]:List (Int×Nat)).length=0 from rfl]at ho
   obtain⟨Ac,cc,rfl⟩:=ho.shape
   have hend:tSearch g s (root:Int)=s2:=by
    unfold tSearch;rw[if_pos H0.out,he];exact tIter_same (tIter_end HG.out _ K1.out (Nat.le_refl _)) (by rw[← he];exact hcs)
   have hfin:=hw.more (Y:=[]) (by simp)
   obtain⟨HO,HW,HE,HMM,HOK,HCO,HHD,HCS,HEND,HFIN⟩:=Zq10 ho hw he hmm hok hco hhd hcs hend hfin;clear ho hw he hmm hok hco hhd hcs hend hfin
   go_wp2_with fail;go_end0
   exact⟨rfl,sv2,ov2,by rw[HEND.out];exact HFIN.out⟩
  | (a,j)::rest=>
   have hvis:=tVisit_ok hok hcs;have hstp:=tStep_ok HG.out hok (by rw[hcs];simp);rw[hcs]at ho
   obtain⟨m,hm_⟩:∃m,m=rest.length:=⟨_,rfl⟩
   have eL:((a,j)::rest).length=m+1:=(by rw[hm_];rfl);rw[eL]at ho
   obtain⟨cg,cc,rfl,⟨hc1,hc2⟩,⟨hcB,hcW⟩,hcell,hfrz⟩:=ho.form (by omega)
   have htop:=callL_top (a,j) rest;rw[← hm_]at htop
   obtain⟨m0,m1⟩:=hcell m _ htop
   simp only[toP]at m0 m1
   obtain⟨c1,c2,c3⟩:=hok.call (a,j) (by rw[hcs];exact List.mem_cons_self ..)
   simp only at c1 c2 c3
   obtain⟨an,rfl⟩:∃an:Nat,a=(an:Int):=⟨a.toNat,by omega⟩
   have han:an<n:=(by have:=HGL.out;omega);have eli:=hok.li;rw[HGL.out]at eli;have p0:(0:Int)≤(m:Int):=(by omega);have p1:(m:Int)<(m:Int)+1:=(by omega);have q0:(0:Int)≤(an:Int):=(by omega);have q1:(an:Int)<(n:Int):=(by omega)
   obtain⟨z,hz⟩:∃z,z=nthZ s2.idx (an:Int):=⟨_,rfl⟩
   have x1:wo.cell? ⟨a1,0,none⟩=some (.slice (some ⟨ui,0,none⟩) n n):=hw.b1.cell 0;have x2:wo.cell? ⟨ui,an,none⟩=some (.int .i64 z):=(by rw[hw.ix.cell,intC_at eli han,hz]);have hml:m≤4001:=(by have:=calls_le hvis;have:=HGL.out;omega)
   obtain⟨HVIS,HSTP,HO,HW,HE,HMM,HOK,HCO,HHD,HCS,HCELL,HFRZ⟩:=Zq12 hvis hstp ho hw he hmm hok hco hhd hcs hcell hfrz;clear hvis hstp ho hw he hmm hok hco hhd hcs hcell hfrz
   obtain⟨HM_,EL,HTOP,ELI⟩:=Zq4 hm_ eL htop eli;clear hm_ eL htop eli
   obtain⟨vb,hvb⟩:∃vb:Bool,vb=decide (j=0∧z=0):=⟨_,rfl⟩
   go_upto_region 4 with fail;go_cut [11,44] (fun s11 s44 wx=>s11=.int .i64 (an:Int)∧s44=.bool vb∧wo=wx)
   case first=>
    by_cases hj:j=0
    ·subst hj
     by_cases hz0:z=0
     ·subst hz0;obtain rfl:vb=true:=(by rw[hvb];exact decide_eq_true ⟨rfl,rfl⟩)
      obtain⟨HZ,HVB⟩:=Zq2 hz hvb;clear hz hvb
      go_wp2_with fail;go_meet
      exact⟨rfl,rfl,rfl⟩
     ·obtain rfl:vb=false:=(by rw[hvb];exact decide_eq_false (fun q=>hz0 q.2));have z1:(z==0)=false:=(by simpa using hz0)
      obtain⟨HZ,HVB⟩:=Zq2 hz hvb;clear hz hvb
      go_wp2_with fail;go_meet
      exact⟨rfl,rfl,rfl⟩
    ·obtain rfl:vb=false:=(by rw[hvb];exact decide_eq_false (fun q=>hj q.1));have j1:((j:Int)==0)=false:=(by simpa using hj)
     obtain⟨HZ,HVB⟩:=Zq2 hz hvb;clear hz hvb
     go_wp2_with fail;go_meet
     exact⟨rfl,rfl,rfl⟩
   case rest=>
    obtain⟨rfl,rfl,rfl⟩:=hcut
    obtain⟨HZ,HVB⟩:=Zq2 hz hvb;clear hz hvb
    go_upto_if 44 with fail;go_cut [11] (fun s11 wx=>s11=.int .i64 (an:Int)∧∃sv3,TW w0 n a1 a2 a3 a4 a5 a6 a7 ui ul uo B gA gc [cg] wx (tVisit s2 (an:Int) j) sv3 ov2∧OwnF wx B (.slice (some ⟨cg,0,none⟩) (m+1) cc) (m+1) (callL (((an:Int),j)::rest)))
    case first=>
     rcases Bool.eq_false_or_eq_true vb with rfl | rfl
     ·obtain⟨rfl,hz0⟩:=of_decide_eq_true HVB.out.symm
      subst hz0;have y1:wo.cell? ⟨a2,0,none⟩=some (.int .i64 s2.cnt):=HW.out.b2.cell 0;have y2:wo.frozen? ⟨a2,0,none⟩=false:=HW.out.b2.frozen 0;have hcn:=HOK.out.cnt;have hcv:=visN_le s2.idx
      obtain⟨cn,hcn2⟩:∃cn:Nat,s2.cnt=(cn:Int):=⟨visN s2.idx,hcn⟩
      rw[hcn2]at y1;have hcb:cn≤4001:=(by have:=ELI.out;omega);have hw2:=HW.out.set2 ((cn:Int)+1);have k2:Kept [a2] wo (wo.setCell ⟨a2,0,none⟩ (.int .i64 ((cn:Int)+1))):=(Kept.refl _ _).set (.inl (by simp)) _;have hcg:∀q∈[a1,a2,a3,a4,a5,a6,a7,ui,ul,uo],cg≠q:=fun q hq e=>by have:=(HW.out.lt q hq).2;omega
      have ho2:=HO.out.keptS k2 (fun q hq hm=>by
       have e1:q=a2:=(by simpa using hm);have e2:cg=q:=(by simpa[Value.ownBlock]using hq);exact hcg a2 (by simp) (e2.trans e1))
      obtain⟨HCN,HCN2,HW2,K2,HO2,HCV,HCG⟩:=Zq7 hcn hcn2 hw2 k2 ho2 hcv hcg;clear hcn hcn2 hw2 k2 ho2 hcv hcg
      go_upto_region 6 with fail;clear y1 y2 x1 x2 m0 m1;generalize wo.setCell ⟨a2,0,none⟩ (.int .i64 ((cn:Int)+1))=w2 at *
      obtain⟨A2,l2,c2,rfl⟩:=HW.out.st.shape
      have ev:tVisit s2 (an:Int) 0={ s2 with cnt:=(cn:Int)+1,idx:=updZ s2.idx (an:Int) ((cn:Int)+1),low:=updZ s2.low (an:Int) ((cn:Int)+1),on:=updZ s2.on (an:Int) 1,stack:=s2.stack++[(an:Int)] }:=by
       unfold tVisit;rw[if_pos ⟨rfl,HZ.out.symm⟩,HCN2.out]
      have ell:=HOK.out.ll;have elo:=HOK.out.lo;rw[HGL.out]at ell elo;have hsl:=stack_le HOK.out;rw[HGL.out]at hsl
      obtain⟨EV,ELL,ELO⟩:=Zq3 ev ell elo;clear ev ell elo
      refine wp_region_inv (fun listed a' w'=>∃(b0 b1 b2 b3 b4 b5 b6 b7 b8 b9 b10 b11 b12 b13:Bool) (u47 u48 u49 u50 u51 u52 u53 u54 u55 u56 u57:Value),listed=#[b0,b1,b2,b3,b4,b5,b6,b7,b8,b9,b10,b11,b12,b13]∧a'={ tmps:=#[.int .i64 (root:Int),.pointer (some ⟨a1,0,none⟩),.pointer (some ⟨a2,0,none⟩),.pointer (some ⟨a3,0,none⟩),.pointer (some ⟨a4,0,none⟩),.pointer (some ⟨a5,0,none⟩),.pointer (some ⟨a6,0,none⟩),.pointer (some ⟨a7,0,none⟩),undef,.slice (some ⟨cg,0,none⟩) (m+1) cc,.pointer (some ⟨cg,m*2,none⟩),.int .i64 (an:Int),u12,u13,u14,u15,undef,u17,.int .i64 (root:Int),.agg #[.int .i64 (root:Int),.int .i64 0],.slice (some ⟨w.heap.size,0,none⟩) 1 1,u21,u22,u23,u24,u25,u26,u27,u28,u29,u30,u31,u32,u33,u34,u35,u36,u37,u38,u39,u40,u41,u42,u43,.bool true,.int .i64 (cn:Int),.int .i64 ((cn:Int)+1),u47,u48,u49,u50,u51,u52,u53,u54,u55,u56,u57,u58,u59,u60,u61,u62,u63,u64,u65,u66,u67,u68,u69,u70,u71,u72,u73,u74,u75,u76,u77,u78,u79,u80,u81,u82,u83,u84,u85,u86,u87,u88,u89,u90,u91,u92,u93,u94,u95,u96,u97,u98,u99,u100,u101,u102,u103,u104,u105,u106,u107,u108,u109,u110,u111,u112,u113,u114,u115,u116,u117,u118,u119,u120,u121,u122,u123,u124,u125,u126,u127,u128,u129,u130,u131,u132,u133,u134,u135,u136,u137,u138,u139,u140,u141,u142,u143,u144,u145,u146,u147,u148,u149,u150,u151,u152,u153,u154,u155,u156,u157,u158,u159,u160,u161,u162,u163,u164,u165,u166,u167,u168,u169,u170,u171,u172,u173,u174,u175,u176,u177],defers:=[] }∧(Kept [ui,ul,uo] w2 w')∧(TW w0 n a1 a2 a3 a4 a5 a6 a7 ui ul uo B gA gc [cg] w' { s2 with cnt:=((cn:Int)+1),idx:=bif b9 then updZ s2.idx (an:Int) ((cn:Int)+1)else s2.idx,low:=bif b11 then updZ s2.low (an:Int) ((cn:Int)+1)else s2.low,on:=bif b13 then updZ s2.on (an:Int) 1 else s2.on } (.slice A2 l2 c2) ov2)∧(b0=true→u47=.slice (some ⟨ui,0,none⟩) n n)∧(b1=true→u48=.int .i64 (an:Int))∧(b2=true→u49=.slice (some ⟨ul,0,none⟩) n n)∧(b3=true→u50=.int .i64 (an:Int))∧(b4=true→u51=.slice (some ⟨uo,0,none⟩) n n)∧(b5=true→u52=.int .i64 (an:Int))∧(b6=true→u53=.int .i64 ((cn:Int)+1))∧(b7=true→u54=.int .i64 ((cn:Int)+1))∧(b8=true→u55=.pointer (some ⟨ui,an,none⟩))∧(b10=true→u56=.pointer (some ⟨ul,an,none⟩))∧(b12=true→u57=.pointer (some ⟨uo,an,none⟩))) (by kernel_rfl) ?start ?step ?_
      case start=>exact⟨false,false,false,false,false,false,false,false,false,false,false,false,false,false,_,_,_,_,_,_,_,_,_,_,_,rfl,rfl,(Kept.refl _ _).drew,(HW2.out.ext ((Below.refl _ _).drew)),(by simp),(by simp),(by simp),(by simp),(by simp),(by simp),(by simp),(by simp),(by simp),(by simp),(by simp)⟩
      case step=>
       rintro listed a' w' i o ⟨b0,b1,b2,b3,b4,b5,b6,b7,b8,b9,b10,b11,b12,b13,u47,u48,u49,u50,u51,u52,u53,u54,u55,u56,u57,rfl,rfl,hk0,hT,f0,f1,f2,f3,f4,f5,f6,f7,f8,f10,f12⟩ ho hli hd K hK;have Zqx:=fun i h=>hd ⟨i,.data⟩ h rfl
       match i,ho,hli,hd with
       |0,ho,hli,hd=>obtain⟨rfl,rfl⟩:_∧b0=false:=Zqj ho hli;have hm:w'.cell? ⟨a1,0,none⟩=some (.slice (some ⟨ui,0,none⟩) n n):=hT.b1.cell 0;go_simp;exact hK _ _ ⟨_,_,_,_,_,_,_,_,_,_,_,_,_,_,_,_,_,_,_,_,_,_,_,_,_,rfl,rfl,hk0,hT,(fun _=>rfl),f1,f2,f3,f4,f5,f6,f7,f8,f10,f12⟩
       |1,ho,hli,hd=>obtain⟨rfl,rfl⟩:_∧b1=false:=Zqj ho hli;go_simp;exact hK _ _ ⟨_,_,_,_,_,_,_,_,_,_,_,_,_,_,_,_,_,_,_,_,_,_,_,_,_,rfl,rfl,hk0,hT,f0,(fun _=>rfl),f2,f3,f4,f5,f6,f7,f8,f10,f12⟩
       |2,ho,hli,hd=>obtain⟨rfl,rfl⟩:_∧b2=false:=Zqj ho hli;have hm:w'.cell? ⟨a3,0,none⟩=some (.slice (some ⟨ul,0,none⟩) n n):=hT.b3.cell 0;go_simp;exact hK _ _ ⟨_,_,_,_,_,_,_,_,_,_,_,_,_,_,_,_,_,_,_,_,_,_,_,_,_,rfl,rfl,hk0,hT,f0,f1,(fun _=>rfl),f3,f4,f5,f6,f7,f8,f10,f12⟩
       |3,ho,hli,hd=>obtain⟨rfl,rfl⟩:_∧b3=false:=Zqj ho hli;go_simp;exact hK _ _ ⟨_,_,_,_,_,_,_,_,_,_,_,_,_,_,_,_,_,_,_,_,_,_,_,_,_,rfl,rfl,hk0,hT,f0,f1,f2,(fun _=>rfl),f4,f5,f6,f7,f8,f10,f12⟩
       |4,ho,hli,hd=>obtain⟨rfl,rfl⟩:_∧b4=false:=Zqj ho hli;have hm:w'.cell? ⟨a4,0,none⟩=some (.slice (some ⟨uo,0,none⟩) n n):=hT.b4.cell 0;go_simp;exact hK _ _ ⟨_,_,_,_,_,_,_,_,_,_,_,_,_,_,_,_,_,_,_,_,_,_,_,_,_,rfl,rfl,hk0,hT,f0,f1,f2,f3,(fun _=>rfl),f5,f6,f7,f8,f10,f12⟩
       |5,ho,hli,hd=>obtain⟨rfl,rfl⟩:_∧b5=false:=Zqj ho hli;go_simp;exact hK _ _ ⟨_,_,_,_,_,_,_,_,_,_,_,_,_,_,_,_,_,_,_,_,_,_,_,_,_,rfl,rfl,hk0,hT,f0,f1,f2,f3,f4,(fun _=>rfl),f6,f7,f8,f10,f12⟩
       |6,ho,hli,hd=>obtain⟨rfl,rfl⟩:_∧b6=false:=Zqj ho hli;have hm:w'.cell? ⟨a2,0,none⟩=some (.int .i64 ((cn:Int)+1)):=hT.b2.cell 0;go_simp;exact hK _ _ ⟨_,_,_,_,_,_,_,_,_,_,_,_,_,_,_,_,_,_,_,_,_,_,_,_,_,rfl,rfl,hk0,hT,f0,f1,f2,f3,f4,f5,(fun _=>rfl),f7,f8,f10,f12⟩
       |7,ho,hli,hd=>obtain⟨rfl,rfl⟩:_∧b7=false:=Zqj ho hli;have hm:w'.cell? ⟨a2,0,none⟩=some (.int .i64 ((cn:Int)+1)):=hT.b2.cell 0;go_simp;exact hK _ _ ⟨_,_,_,_,_,_,_,_,_,_,_,_,_,_,_,_,_,_,_,_,_,_,_,_,_,rfl,rfl,hk0,hT,f0,f1,f2,f3,f4,f5,f6,(fun _=>rfl),f8,f10,f12⟩
       |8,ho,hli,hd=>obtain⟨rfl,rfl⟩:_∧b8=false:=Zqj ho hli;obtain rfl:b0=true:=Zqx 0 (by simp);obtain rfl:b1=true:=Zqx 1 (by simp);obtain rfl:=f0 rfl;obtain rfl:=f1 rfl;go_simp;exact hK _ _ ⟨_,_,_,_,_,_,_,_,_,_,_,_,_,_,_,_,_,_,_,_,_,_,_,_,_,rfl,rfl,hk0,hT,f0,f1,f2,f3,f4,f5,f6,f7,(fun _=>rfl),f10,f12⟩
       |9,ho,hli,hd=>
        obtain⟨rfl,rfl⟩:_∧b9=false:=Zqj ho hli;obtain rfl:b8=true:=Zqx 8 (by simp);obtain rfl:b6=true:=Zqx 6 (by simp);obtain rfl:=f8 rfl;obtain rfl:=f6 rfl
        have hm:w'.cell? ⟨ui,an,none⟩=some (.int .i64 (nthZ s2.idx (an:Int))):=by
         rw[hT.ix.cell];exact intC_at ELI.out han
        have hz:=hT.ix.frozen an;have HT_:=Zq1 hT;clear hT;go_simp;exact hK _ _ ⟨_,_,_,_,_,_,_,_,_,_,_,_,_,_,_,_,_,_,_,_,_,_,_,_,_,rfl,rfl,(hk0.trans ((Kept.refl _ _).set (.inl (by simp)) _)),(HT_.out.setI an ((cn:Int)+1)),f0,f1,f2,f3,f4,f5,f6,f7,f8,f10,f12⟩
       |10,ho,hli,hd=>obtain⟨rfl,rfl⟩:_∧b10=false:=Zqj ho hli;obtain rfl:b2=true:=Zqx 2 (by simp);obtain rfl:b3=true:=Zqx 3 (by simp);obtain rfl:=f2 rfl;obtain rfl:=f3 rfl;go_simp;exact hK _ _ ⟨_,_,_,_,_,_,_,_,_,_,_,_,_,_,_,_,_,_,_,_,_,_,_,_,_,rfl,rfl,hk0,hT,f0,f1,f2,f3,f4,f5,f6,f7,f8,(fun _=>rfl),f12⟩
       |11,ho,hli,hd=>
        obtain⟨rfl,rfl⟩:_∧b11=false:=Zqj ho hli;obtain rfl:b10=true:=Zqx 10 (by simp);obtain rfl:b7=true:=Zqx 7 (by simp);obtain rfl:=f10 rfl;obtain rfl:=f7 rfl
        have hm:w'.cell? ⟨ul,an,none⟩=some (.int .i64 (nthZ s2.low (an:Int))):=by
         rw[hT.lw.cell];exact intC_at ELL.out han
        have hz:=hT.lw.frozen an;have HT_:=Zq1 hT;clear hT;go_simp;exact hK _ _ ⟨_,_,_,_,_,_,_,_,_,_,_,_,_,_,_,_,_,_,_,_,_,_,_,_,_,rfl,rfl,(hk0.trans ((Kept.refl _ _).set (.inl (by simp)) _)),(HT_.out.setL an ((cn:Int)+1)),f0,f1,f2,f3,f4,f5,f6,f7,f8,f10,f12⟩
       |12,ho,hli,hd=>obtain⟨rfl,rfl⟩:_∧b12=false:=Zqj ho hli;obtain rfl:b4=true:=Zqx 4 (by simp);obtain rfl:b5=true:=Zqx 5 (by simp);obtain rfl:=f4 rfl;obtain rfl:=f5 rfl;go_simp;exact hK _ _ ⟨_,_,_,_,_,_,_,_,_,_,_,_,_,_,_,_,_,_,_,_,_,_,_,_,_,rfl,rfl,hk0,hT,f0,f1,f2,f3,f4,f5,f6,f7,f8,f10,(fun _=>rfl)⟩
       |13,ho,hli,hd=>
        obtain⟨rfl,rfl⟩:_∧b13=false:=Zqj ho hli;obtain rfl:b12=true:=Zqx 12 (by simp);obtain rfl:=f12 rfl
        have hm:w'.cell? ⟨uo,an,none⟩=some (.int .i64 (nthZ s2.on (an:Int))):=by
         rw[hT.on.cell];exact intC_at ELO.out han
        have hz:=hT.on.frozen an;have HT_:=Zq1 hT;clear hT;go_simp;exact hK _ _ ⟨_,_,_,_,_,_,_,_,_,_,_,_,_,_,_,_,_,_,_,_,_,_,_,_,_,rfl,rfl,(hk0.trans ((Kept.refl _ _).set (.inl (by simp)) _)),(HT_.out.setO an 1),f0,f1,f2,f3,f4,f5,f6,f7,f8,f10,f12⟩
       |i+14,ho,hli,hd=>simp at ho
      rintro listed a' w' ⟨b0,b1,b2,b3,b4,b5,b6,b7,b8,b9,b10,b11,b12,b13,u47,u48,u49,u50,u51,u52,u53,u54,u55,u56,u57,rfl,rfl,hk0,hT,f0,f1,f2,f3,f4,f5,f6,f7,f8,f10,f12⟩ hr;obtain rfl:b0=true:=Zqn hr 0 rfl;obtain rfl:b1=true:=Zqn hr 1 rfl;obtain rfl:b2=true:=Zqn hr 2 rfl;obtain rfl:b3=true:=Zqn hr 3 rfl;obtain rfl:b4=true:=Zqn hr 4 rfl;obtain rfl:b5=true:=Zqn hr 5 rfl;obtain rfl:b6=true:=Zqn hr 6 rfl;obtain rfl:b7=true:=Zqn hr 7 rfl;obtain rfl:b8=true:=Zqn hr 8 rfl;obtain rfl:b9=true:=Zqn hr 9 rfl;obtain rfl:b10=true:=Zqn hr 10 rfl;obtain rfl:b11=true:=Zqn hr 11 rfl;obtain rfl:b12=true:=Zqn hr 12 rfl;obtain rfl:b13=true:=Zqn hr 13 rfl;clear hr;have hT:TW w0 n a1 a2 a3 a4 a5 a6 a7 ui ul uo B gA gc [cg] w' { s2 with cnt:=(cn:Int)+1,idx:=updZ s2.idx (an:Int) ((cn:Int)+1),low:=updZ s2.low (an:Int) ((cn:Int)+1),on:=updZ s2.on (an:Int) 1 } (.slice A2 l2 c2) ov2:=hT;clear f0 f1 f2 f3 f4 f5 f6 f7 f8 f10 f12
      have ho3:=HO2.out.keptS hk0 (fun q hq hm=>by
       have e2:cg=q:=(by simpa[Value.ownBlock]using hq);have hm:q=ui∨q=ul∨q=uo:=(by simpa using hm);rcases hm with rfl | rfl | rfl <;> exact HCG.out _ (by simp) e2)
      obtain⟨v',w3,hrun,hown,hg3,hat⟩:=app1 hT.st (an:Int) (by show s2.stack.length<_;omega) hT.sz 23
      have hst:=hT.stack (xs:=s2.stack++[(an:Int)]) (by rw[List.length_append];exact hown) hg3 hat;have hne:=fun(k:Nat) (hk:(Value.slice A2 l2 c2).ownBlock=some k)=>own_ty2 hT.st.2 ho3.2 (by decide) hk;have ho4:=ho3.keptS (grown_kept hg3) (fun q hq hm=>hne q (by simpa using hm) hq)
      have ho5:=ho4.keptS (S:=[a5]) (w':=w3.setCell ⟨a5,0,none⟩ v') ((Kept.refl _ _).set (.inl (by simp)) _) (fun q hq hm=>by
       have e1:q=a5:=(by simpa using hm);have e2:cg=q:=(by simpa[Value.ownBlock]using hq);exact HCG.out a5 (by simp) (e2.trans e1))
      have m5:w'.cell? ⟨a5,0,none⟩=some (.slice A2 l2 c2):=hT.b5.cell 0;have hb5:Blk w3 a5 23 #[.slice A2 l2 c2]:=hT.b5.grown hg3 (fun e=>by have:=(hT.st_lt e.symm).1;have:=(hT.lt a5 (by simp)).2;omega);have m6:w3.cell? ⟨a5,0,none⟩=some (.slice A2 l2 c2):=hb5.cell 0;have m7:=hb5.frozen 0
      obtain⟨A3,l3,c3,rfl⟩:=hown.shape
      obtain⟨HT,HK0,HO3,HRUN,HOWN,HG3,HAT,HST,HNE,HO4,HO5,HB5⟩:=Zq12 hT hk0 ho3 hrun hown hg3 hat hst hne ho4 ho5 hb5;clear hT hk0 ho3 hrun hown hg3 hat hst hne ho4 ho5 hb5
      go_wp2_with (at_builtin;refine wpList_append_run rfl _ _ _ rfl _ _ rfl rfl _ _ HRUN.out ?_);go_meet
      exact⟨rfl,_,by rw[EV.out];exact HST.out,HO5.out⟩
     ·have ev:tVisit s2 (an:Int) j=s2:=by
       unfold tVisit;rw[if_neg (by rw[← HZ.out];exact of_decide_eq_false HVB.out.symm)]
      have EV:=Zq1 ev;clear ev;go_wp2_with fail;go_meet
      exact⟨rfl,sv2,by rw[EV.out];exact HW.out,HO.out⟩
    case rest=>
     obtain⟨rfl,sv3,hw3,ho3⟩:=hcut
     obtain⟨s3,hs3⟩:∃s3,s3=tVisit s2 (an:Int) j:=⟨_,rfl⟩
     have hvi:=HVIS.out;have hst:=HSTP.out
     have estep:tStep g s2=match (rowZ g (an:Int))[j]? with | some b=>tNext s3 (an:Int) j rest b | none=>tComp (tUp s3 (an:Int) rest) (an:Int):=by
      rw[hs3];unfold tStep;rw[HCS.out]
      rfl
     have hfin:∀(cv':Value) (w':World) (l:Nat) (xs:List (Int×Int)) (s':TS) (sv' ov':Value),s'=tStep g s2→xs=callL s'.calls→OwnF w' B cv' l xs→TW w0 n a1 a2 a3 a4 a5 a6 a7 ui ul uo B gA gc cv'.ownBlock.toList w' s' sv' ov' →
       (∃(s':TS) (sv ov:Value) (k:Nat),OwnF w' B cv' s'.calls.length (callL s'.calls)∧TW w0 n a1 a2 a3 a4 a5 a6 a7 ui ul uo B gA gc cv'.ownBlock.toList w' s' sv ov∧s'=tIter g k (tFrom s (root:Int))) ∧
       M (cv',w')<M (.slice (some ⟨cg,0,none⟩) (m+1) cc,wo):=fun cv' w' l xs s' sv' ov' e1 e2 h1 h2=>by
      have el:l=s'.calls.length:=(by rw[h1.1,e2,callL_len]);subst el;subst e2;have e3:s'=tIter g (k+1) (tFrom s (root:Int)):=(by rw[tIter_succ,← HE.out];exact e1)
      refine⟨⟨s',sv',ov',k+1,h1,h2,e3⟩,?_⟩
      have q1:=(HM.out (cv',w') (tMeas g s') ⟨s',sv',ov',k+1,h1,h2,e3,rfl⟩).2;have q2:=hst.2;rw[← e1,HMM.out]at q2;omega
     rw[← hs3]at hw3 hvi
     obtain⟨cg2,cc2,ecv,-,-,hcell3,hfrz3⟩:=ho3.form (by omega)
     injection ecv with ecv _ ecc;injection ecv with ecv;injection ecv with ecv _ _;subst ecv ecc
     obtain⟨m0',m1'⟩:=hcell3 m _ HTOP.out
     simp only[toP]at m0' m1';have hrow:=row_at g an (by have:=HGL.out;omega)
     obtain⟨rb,ro,rA,rl,rc,rfl,lr0,cr0,hrw⟩:=HS.out.set hrow
     have crx:=(hw3.bel.cell (World.block_lt_of_cell? _ _ cr0)).trans cr0;have hr3:=hrw.ext hw3.bel;have hrc:=hrw.cap;have hrm:=hrw.max;have hrl:=hrw.len;have hrd:=HG.out.deg (an:Int);rw[← hrl]at hrd;have b6c:wc.cell? ⟨a6,0,none⟩=some (.slice (some ⟨rb,ro,none⟩) n gc):=hw3.b6.cell 0;have hcgn:∀q∈[a1,a2,a3,a4,a5,a6,a7,ui,ul,uo],cg≠q:=fun q hq e=>by have:=(hw3.lt q hq).2;omega
     have hnc1:=own_ty2 ho3.2 hw3.st.2 (by decide) (k:=cg) rfl
     have hnc2:ov2.ownBlock≠some cg:=by
      obtain⟨cs,h1⟩:=hw3.ou
      exact own_ty2 ho3.2 h1.1 (by decide) (k:=cg) rfl
     have e11:=hvi.li;have e12:=hvi.ll;have e13:=hvi.lo;rw[HGL.out]at e11 e12 e13;clear x1 x2 m0 m1
     by_cases hjr:j<rl
     ·obtain⟨b,hb⟩:∃b,(rowZ g (an:Int))[j]? = some b:=⟨_,List.getElem?_eq_getElem (by omega)⟩
      obtain⟨eb,eo,rfl,le,ce,b64⟩:=hr3.int hb
      have hbr:=HG.out.ent _ b (List.mem_of_getElem? hb)
      obtain⟨bn,rfl⟩:∃bn:Nat,b=(bn:Int):=⟨b.toNat,by omega⟩
      have hbn:bn<n:=(by have:=HGL.out;omega);have e0:decide ((j:Int)<(rl:Int))=true:=(by simp;omega);have j0:(0:Int)≤(j:Int):=(by omega);have j1:(j:Int)<(rl:Int):=(by omega);have r0:(0:Int)≤(bn:Int):=(by omega);have r1:(bn:Int)<(n:Int):=(by omega);rw[hb]at estep;simp only at estep
      obtain⟨HVI,HST,ESTEP,HW3,HO3,HCELL3,HFRZ3,HROW,HRW,HR3,HRL,HB⟩:=Zq12 hvi hst estep hw3 ho3 hcell3 hfrz3 hrow hrw hr3 hrl hb;clear hvi hst estep hw3 ho3 hcell3 hfrz3 hrow hrw hr3 hrl hb
      obtain⟨HS3,HFIN,HCGN,HNC1,HNC2,E11,E12,E13,B64⟩:=Zq9 hs3 hfin hcgn hnc1 hnc2 e11 e12 e13 b64;clear hs3 hfin hcgn hnc1 hnc2 e11 e12 e13 b64
      go_wp2_with fail;refine wp_region_later [(⟨cg,m*2+1,none⟩,.int .i64 (j:Int)),(⟨a6,0,none⟩,.slice (some ⟨rb,ro,none⟩) n gc),(⟨rb,ro+an,none⟩,.slice (some ⟨eb,eo,none⟩) rl rc)] (by kernel_rfl) (by kernel_rfl) (by simp[go_sem, *]) ?_;intro hk;simp only[List.forall_mem_cons]at hk;obtain⟨k8_0,k8_1,k8_2,kz⟩:=hk;clear kz
      repeat go_big_quiet_step (fail)
      refine wpQuiet_nil ?_;rintro w2 ⟨u8,rfl⟩;have HU8:=Zq1 u8.h;clear k8_0 k8_1 k8_2;have hw4:=HW3.out.ext HU8.out;have ho4:=HO3.out.bel HU8.out;have c41:=(HU8.out.cell (World.block_lt_of_cell? _ _ m1')).trans m1';have c42:=(HU8.out.cell (World.block_lt_of_cell? _ _ b6c)).trans b6c;have c43:=(HU8.out.cell (World.block_lt_of_cell? _ _ crx)).trans crx;have c44:=(HU8.out.cell (World.block_lt_of_cell? _ _ ce)).trans ce;clear m0' m1' b6c crx ce cr0 HU8;generalize u8.w=w4 at *
      obtain⟨HW4,HO4⟩:=Zq2 hw4 ho4;clear hw4 ho4
      go_wp2_with fail;refine wp_region_later [(⟨a6,0,none⟩,.slice (some ⟨rb,ro,none⟩) n gc),(⟨rb,ro+an,none⟩,.slice (some ⟨eb,eo,none⟩) rl rc),(⟨cg,m*2+1,none⟩,.int .i64 (j:Int)),(⟨eb,eo+j,none⟩,.int .i64 (bn:Int))] (by kernel_rfl) (by kernel_rfl) (by simp[go_sem, *]) ?_;intro hk;simp only[List.forall_mem_cons]at hk;obtain⟨k9_0,k9_1,k9_2,k9_3,kz⟩:=hk;clear kz
      repeat go_big_quiet_step (fail)
      refine wpQuiet_nil ?_;rintro w2 ⟨u9,rfl⟩;have HU9:=Zq1 u9.h;clear k9_0 k9_1 k9_2 k9_3;have hw5:=HW4.out.ext HU9.out;have ho5:=HO4.out.bel HU9.out;have c51:=(HU9.out.cell (World.block_lt_of_cell? _ _ c41)).trans c41;clear c41 c42 c43 c44 HU9;generalize u9.w=w5 at *
      obtain⟨cg5,cc5,ecv,-,-,-,hfrz5⟩:=ho5.form (by omega)
      injection ecv with ecv _ ecc;injection ecv with ecv;injection ecv with ecv _ _;subst ecv ecc;have f51:=hfrz5 (m*2+1);have k5:Kept [cg] w5 (w5.setCell ⟨cg,m*2+1,none⟩ (.int .i64 ((j:Int)+1))):=(Kept.refl _ _).set (.inl (by simp)) _;have ho6:=ho5.put HTOP.out ((j:Int)+1);simp only[toP]at ho6;have hset:(callL (((an:Int),j)::rest)).set m ((an:Int),(j:Int)+1)=callL (((an:Int),j+1)::rest):=(by rw[HM_.out];exact callL_set _ _ _);rw[hset]at ho6;clear hset
      have hw6:=hw5.kept k5 (fun q hq=>by
       have e:q=cg:=(by simpa using hq);subst e
       exact⟨.inl (by simp),hcB,HNC1.out,HNC2.out⟩)
      obtain⟨HW5,HO5,HFRZ5,K5,HO6,HW6⟩:=Zq6 hw5 ho5 hfrz5 k5 ho6 hw6;clear hw5 ho5 hfrz5 k5 ho6 hw6
      go_upto_region 11 with fail;clear c51 f51;generalize w5.setCell ⟨cg,m*2+1,none⟩ (.int .i64 ((j:Int)+1))=w6 at *
      obtain⟨zb,hzb⟩:∃zb,zb=nthZ s3.idx (bn:Int):=⟨_,rfl⟩
      have d1:w6.cell? ⟨a1,0,none⟩=some (.slice (some ⟨ui,0,none⟩) n n):=HW6.out.b1.cell 0;have d2:w6.cell? ⟨ui,bn,none⟩=some (.int .i64 zb):=(by rw[HW6.out.ix.cell,intC_at E11.out hbn,hzb])
      by_cases h0b:zb=0
      ·subst h0b
       obtain⟨v',w7,hrun,hown,hg7,hat⟩:=appF HO6.out (bn:Int) 0 (by omega) HW6.out.sz 131
       have hw7:=((HW6.out.more (Y:=[cg]++v'.ownBlock.toList) (fun q hq=>by
        rcases List.mem_append.1 hq with q1 | q1
        ·exact .inl q1
        ·exact(hat q (by simpa using q1)).imp (fun e=>by
          have:cg=q:=(by simpa[Value.ownBlock]using e)
          simp[this]) id)).kept (S:=[cg]) (grown_kept hg7) (fun q hq=>by
        have e:q=cg:=(by simpa using hq);subst e
        exact⟨.inl (by simp),hcB,HNC1.out,HNC2.out⟩))
       have hw8:=(hw7.more (Y:=v'.ownBlock.toList) (fun q hq=>.inl (List.mem_append.2 (.inr hq)))).calls (((bn:Int),0)::((an:Int),j+1)::rest)
       have es:tStep g s2={ s3 with calls:=((bn:Int),0)::((an:Int),j+1)::rest }:=by
        rw[ESTEP.out];unfold tNext;rw[if_pos hzb.symm]
       obtain⟨A7,c7,rfl⟩:=hown.shape
       have hF:=HFIN.out _ w7 _ _ _ sv3 ov2 es.symm (callL_cons ((bn:Int),0) (((an:Int),j+1)::rest)).symm hown hw8
       obtain⟨HZB,HRUN,HOWN,HG7,HAT,HW7,HW8,ES,HF⟩:=Zq9 hzb hrun hown hg7 hat hw7 hw8 es hF;clear hzb hrun hown hg7 hat hw7 hw8 es hF
       go_wp2_with (at_builtin;refine wpList_append_run rfl _ _ _ rfl _ _ rfl rfl _ _ HRUN.out ?_);go_roundw
       case rel=>exact HF.out.1
       case measure=>exact HF.out.2
      ·have z1:(zb==0)=false:=(by simpa using h0b)
       obtain⟨zo,hzo⟩:∃zo,zo=nthZ s3.on (bn:Int):=⟨_,rfl⟩
       have d3:w6.cell? ⟨a4,0,none⟩=some (.slice (some ⟨uo,0,none⟩) n n):=HW6.out.b4.cell 0;have d4:w6.cell? ⟨uo,bn,none⟩=some (.int .i64 zo):=(by rw[HW6.out.on.cell,intC_at E13.out hbn,hzo])
       by_cases hon:0<zo
       ·have t1:decide (0<zo)=true:=decide_eq_true hon
        obtain⟨zl,hzl⟩:∃zl,zl=nthZ s3.low (an:Int):=⟨_,rfl⟩
        have d5:w6.cell? ⟨a3,0,none⟩=some (.slice (some ⟨ul,0,none⟩) n n):=HW6.out.b3.cell 0;have d6:w6.cell? ⟨ul,an,none⟩=some (.int .i64 zl):=(by rw[HW6.out.lw.cell,intC_at E12.out han,hzl])
        have es:tStep g s2={ s3 with calls:=((an:Int),j+1)::rest,low:=updZ s3.low (an:Int) (min zl zb) }:=by
         rw[ESTEP.out];unfold tNext;rw[if_neg (by rw[← hzb];exact h0b),if_pos (by rw[← hzo];exact hon),hzl,hzb]
        obtain⟨HZB,HZO,HZL,ES⟩:=Zq4 hzb hzo hzl es;clear hzb hzo hzl es
        go_wp2_with fail;refine wp_region_tail 12 [(⟨a3,0,none⟩,.slice (some ⟨ul,0,none⟩) n n),(⟨ul,an,none⟩,.int .i64 zl),(⟨a1,0,none⟩,.slice (some ⟨ui,0,none⟩) n n),(⟨ui,bn,none⟩,.int .i64 zb)] (by kernel_rfl) (by kernel_rfl) (by simp[go_sem, *]) ?_;intro X hk hX;simp only[List.forall_mem_cons]at hk;obtain⟨kt0,kt1,kt2,kt3,kz⟩:=hk;clear kz;simp only[List.take_succ_cons,List.take_zero,List.drop_succ_cons,List.drop_zero]
        repeat go_big_quiet_step (fail)
        refine wpQuiet_nil ?_;have fX:X.frozen? ⟨ul,an,none⟩=false:=(by rw[hX];exact HW6.out.lw.frozen an);have cX:X.cell? ⟨ul,an,none⟩=some (.int .i64 zl):=(by rw[hX];exact d6);have hwX:=HW6.out.ext (Below.refl w6.heap.size w6).drew;have hoX:=HO6.out.bel (Below.refl w6.heap.size w6).drew;rw[← hX]at hwX hoX;have hw7:=(hwX.setL an (min zl zb)).calls (((an:Int),j+1)::rest)
        have ho7:=hoX.keptS (S:=[ul]) (w':=X.setCell ⟨ul,an,none⟩ (.int .i64 (min zl zb))) ((Kept.refl _ _).set (.inl (by simp)) _) (fun q hq hm=>by
         have e1:q=ul:=(by simpa using hm);have e2:cg=q:=(by simpa[Value.ownBlock]using hq);exact HCGN.out ul (by simp) (e2.trans e1))
        have hF:=HFIN.out _ _ _ _ _ sv3 ov2 ES.out.symm rfl ho7 hw7;clear hX d1 d2 d3 d4 d5 d6
        obtain⟨HWX,HOX,HW7,HO7,HF⟩:=Zq5 hwX hoX hw7 ho7 hF;clear hwX hoX hw7 ho7 hF
        go_wp2_with fail;go_roundw
        case rel=>exact HF.out.1
        case measure=>exact HF.out.2
       ·have t1:decide (0<zo)=false:=decide_eq_false hon
        have es:tStep g s2={ s3 with calls:=((an:Int),j+1)::rest }:=by
         rw[ESTEP.out];unfold tNext;rw[if_neg (by rw[← hzb];exact h0b),if_neg (by rw[← hzo];exact hon)]
        have hF:=HFIN.out _ w6 _ _ _ sv3 ov2 es.symm rfl HO6.out (HW6.out.calls (((an:Int),j+1)::rest))
        obtain⟨HZB,HZO,ES,HF⟩:=Zq4 hzb hzo es hF;clear hzb hzo es hF
        go_wp2_with fail;go_roundw
        case rel=>exact HF.out.1
        case measure=>exact HF.out.2
     ·have hnone:(rowZ g (an:Int))[j]? = none:=List.getElem?_eq_none (by omega);have e0:decide ((j:Int)<(rl:Int))=false:=(by simp;omega);rw[hnone]at estep;simp only at estep
      obtain⟨u1,u2,u3,u4,u5⟩:=tUp_ok hvi
      obtain⟨s4,hs4⟩:∃s4,s4=tUp s3 (an:Int) rest:=⟨_,rfl⟩
      rw[← hs4]at estep u1 u2 u3 u4 u5;have hc4:s4.calls=rest:=(by rw[hs4];cases rest <;> rfl)
      obtain⟨mb,hmb⟩:∃mb:Bool,mb=decide (0<m):=⟨_,rfl⟩
      have mb1:decide ((0:Int)<(m:Int))=mb:=(by rw[hmb];simp);have mb2:decide (0<m)=mb:=hmb.symm
      have htk:(callL (((an:Int),j)::rest)).take m=callL rest:=by
       rw[callL_cons,List.take_append_of_le_length (by rw[callL_len,HM_.out];exact Nat.le_refl _),List.take_of_length_le (by rw[callL_len,HM_.out];exact Nat.le_refl _)]
      obtain⟨HVI,HST,ESTEP,HW3,HO3,HCELL3,HFRZ3,HROW,HRW,HR3,HRL,HNONE⟩:=Zq12 hvi hst estep hw3 ho3 hcell3 hfrz3 hrow hrw hr3 hrl hnone;clear hvi hst estep hw3 ho3 hcell3 hfrz3 hrow hrw hr3 hrl hnone
      obtain⟨HS3,HFIN,HCGN,HNC1,HNC2,E11,E12,E13,U1,U2,U3,U4⟩:=Zq12 hs3 hfin hcgn hnc1 hnc2 e11 e12 e13 u1 u2 u3 u4;clear hs3 hfin hcgn hnc1 hnc2 e11 e12 e13 u1 u2 u3 u4
      obtain⟨U5,HS4,HC4,HMB,HTK⟩:=Zq5 u5 hs4 hc4 hmb htk;clear u5 hs4 hc4 hmb htk
      go_wp2_with fail;refine wp_region_later [(⟨cg,m*2+1,none⟩,.int .i64 (j:Int)),(⟨a6,0,none⟩,.slice (some ⟨rb,ro,none⟩) n gc),(⟨rb,ro+an,none⟩,.slice rA rl rc)] (by kernel_rfl) (by kernel_rfl) (by simp[go_sem, *]) ?_;intro hk;simp only[List.forall_mem_cons]at hk;obtain⟨k8_0,k8_1,k8_2,kz⟩:=hk;clear kz
      repeat go_big_quiet_step (fail)
      refine wpQuiet_nil ?_;rintro w2 ⟨u8,rfl⟩;have HU8:=Zq1 u8.h;clear k8_0 k8_1 k8_2;have hw4:=HW3.out.ext HU8.out;have ho4:=(HO3.out.bel HU8.out).take (k:=m) (by omega);rw[HTK.out]at ho4;clear m0' m1' b6c crx cr0 HU8;generalize u8.w=w4 at *
      obtain⟨HW4,HO4⟩:=Zq2 hw4 ho4;clear hw4 ho4
      go_upto_if 123 with fail;clear mb1 mb2;go_cut [9,11] (fun s9 s11 wx=>s9=.slice (some ⟨cg,0,none⟩) m cc∧s11=.int .i64 (an:Int)∧TW w0 n a1 a2 a3 a4 a5 a6 a7 ui ul uo B (some ⟨rb,ro,none⟩) gc [cg] wx s4 sv3 ov2∧OwnF wx B (.slice (some ⟨cg,0,none⟩) m cc) m (callL rest))
      case first=>
       rcases rest with _ | ⟨⟨u,ku⟩,r⟩
       ·obtain rfl:m=0:=HM_.out;obtain rfl:mb=false:=HMB.out
        have hw5:TW w0 n a1 a2 a3 a4 a5 a6 a7 ui ul uo B (some ⟨rb,ro,none⟩) gc [cg] w4 s4 sv3 ov2:=by
         rw[HS4.out];exact HW4.out.calls []
        have HW5:=Zq1 hw5;clear hw5;go_wp2_with fail;go_meet
        exact⟨rfl,rfl,HW5.out,HO4.out⟩
       ·obtain⟨q,rfl⟩:∃q,m=q+1:=⟨r.length,HM_.out⟩
        obtain rfl:mb=true:=(by rw[HMB.out];simp);have hq:q=r.length:=(by have:=HM_.out;simp at this;exact this)
        obtain⟨cg5,cc5,ecv,-,-,hcell5,-⟩:=HO4.out.form (by omega)
        injection ecv with ecv _ ecc;injection ecv with ecv;injection ecv with ecv _ _;subst ecv ecc;have htp:=callL_top (u,ku) r;rw[← hq]at htp
        obtain⟨m5,-⟩:=hcell5 q _ htp
        simp only[toP]at m5
        obtain⟨g1,g2,-⟩:=HOK.out.call (u,ku) (by rw[HCS.out];simp)
        simp only at g1 g2
        obtain⟨un,rfl⟩:∃un:Nat,u=(un:Int):=⟨u.toNat,by omega⟩
        have hun:un<n:=(by have:=HGL.out;omega)
        obtain⟨zu,hzu⟩:∃zu,zu=nthZ s3.low (un:Int):=⟨_,rfl⟩
        obtain⟨zl,hzl⟩:∃zl,zl=nthZ s3.low (an:Int):=⟨_,rfl⟩
        have d1:w4.cell? ⟨a3,0,none⟩=some (.slice (some ⟨ul,0,none⟩) n n):=HW4.out.b3.cell 0;have d2:w4.cell? ⟨ul,un,none⟩=some (.int .i64 zu):=(by rw[HW4.out.lw.cell,intC_at E12.out hun,hzu]);have d3:w4.cell? ⟨ul,an,none⟩=some (.int .i64 zl):=(by rw[HW4.out.lw.cell,intC_at E12.out han,hzl])
        have es:s4={ s3 with calls:=((un:Int),ku)::r,low:=updZ s3.low (un:Int) (min zu zl) }:=by
         rw[HS4.out,hzu,hzl];rfl
        have v0:(0:Int)≤(q:Int):=(by omega);have v1:(q:Int)<(q:Int)+1:=(by omega);have v2:(0:Int)≤(un:Int):=(by omega);have v3:(un:Int)<(n:Int):=(by omega)
        obtain⟨HQ,HCELL5,HTP,HZU,HZL,ES⟩:=Zq6 hq hcell5 htp hzu hzl es;clear hq hcell5 htp hzu hzl es
        go_wp2_with fail;refine wp_region_tail 12 [(⟨a3,0,none⟩,.slice (some ⟨ul,0,none⟩) n n),(⟨ul,un,none⟩,.int .i64 zu),(⟨ul,an,none⟩,.int .i64 zl)] (by kernel_rfl) (by kernel_rfl) (by simp[go_sem, *]) ?_;intro X hk hX;simp only[List.forall_mem_cons]at hk;obtain⟨kt0,kt1,kt2,kz⟩:=hk;clear kz;simp only[List.take_succ_cons,List.take_zero,List.drop_succ_cons,List.drop_zero]
        repeat go_big_quiet_step (fail)
        refine wpQuiet_nil ?_;have fX:X.frozen? ⟨ul,un,none⟩=false:=(by rw[hX];exact HW4.out.lw.frozen un);have cX:X.cell? ⟨ul,un,none⟩=some (.int .i64 zu):=(by rw[hX];exact d2);have hwX:=HW4.out.ext (Below.refl w4.heap.size w4).drew;have hoX:=HO4.out.bel (Below.refl w4.heap.size w4).drew;rw[← hX]at hwX hoX;have hw7:=(hwX.setL un (min zu zl)).calls (((un:Int),ku)::r)
        have ho7:=hoX.keptS (S:=[ul]) (w':=X.setCell ⟨ul,un,none⟩ (.int .i64 (min zu zl))) ((Kept.refl _ _).set (.inl (by simp)) _) (fun q hq hm=>by
         have e1:q=ul:=(by simpa using hm);have e2:cg=q:=(by simpa[Value.ownBlock]using hq);exact HCGN.out ul (by simp) (e2.trans e1))
        clear hX d1 d2 d3 m5
        obtain⟨HWX,HOX,HW7,HO7⟩:=Zq4 hwX hoX hw7 ho7;clear hwX hoX hw7 ho7
        go_wp2_with fail;go_meet
        exact⟨rfl,rfl,by rw[ES.out];exact HW7.out,HO7.out⟩
      case rest=>
       obtain⟨rfl,rfl,hw5,ho5⟩:=hcut
       obtain⟨zl,hzl⟩:∃zl,zl=nthZ s4.low (an:Int):=⟨_,rfl⟩
       obtain⟨zi,hzi⟩:∃zi,zi=nthZ s4.idx (an:Int):=⟨_,rfl⟩
       have e42:=U1.out.ll;have e41:=U1.out.li;have e43:=U1.out.lo;rw[HGL.out]at e41 e42 e43;have d1:wc.cell? ⟨a3,0,none⟩=some (.slice (some ⟨ul,0,none⟩) n n):=hw5.b3.cell 0;have d2:wc.cell? ⟨ul,an,none⟩=some (.int .i64 zl):=(by rw[hw5.lw.cell,intC_at e42 han,hzl]);have d3:wc.cell? ⟨a1,0,none⟩=some (.slice (some ⟨ui,0,none⟩) n n):=hw5.b1.cell 0;have d4:wc.cell? ⟨ui,an,none⟩=some (.int .i64 zi):=(by rw[hw5.ix.cell,intC_at e41 han,hzi])
       by_cases hlz:zl=zi
       ·subst hlz
        obtain⟨at_,hat_⟩:∃k,k=s4.stack.idxOf (an:Int):=⟨_,rfl⟩
        have hmem:(an:Int)∈s4.stack:=U3.out.subset (by simp);have hatl:at_<s4.stack.length:=(by rw[hat_];exact List.idxOf_lt_length_of_mem hmem)
        obtain⟨sl,hsl⟩:∃sl,sl=s4.stack.length:=⟨_,rfl⟩
        have hst4:OwnI wc B sv3 sl s4.stack:=(by rw[hsl];exact hw5.st);have hsln:=stack_le U1.out;rw[HGL.out]at hsln;have hatn:at_<sl:=(by omega)
        have h64:∀x∈s4.stack,I64 x:=fun x hx=>by
         have:=U1.out.vis x hx
         have:=HGL.out
         unfold I64;omega
        obtain⟨sb,sc,e,-⟩:=World.ownsRow.form hst4.2 (by omega)
        subst e
        obtain⟨sA,sc2,e,hsS⟩:=hst4.sl (by omega) h64
        injection e with e _ e2;subst e e2;have hslb:sl≤4001:=(by omega);have hscp:=hsS.cap;have hscm:=hsS.max
        have es:tStep g s2={ s4 with stack:=s4.stack.take at_,on:=offAll s4.on (s4.stack.drop at_),out:=s4.out++[sortZ (s4.stack.drop at_)] }:=by
         rw[ESTEP.out];unfold tComp;rw[if_pos (by rw[← hzl,← hzi]),hat_]
        have zz:(zl==zl)=true:=(by simp)
        obtain⟨HW5,HO5,HZL,HZI,E41,E42,E43,ES,HMEM,HATL,HSL,HST4⟩:=Zq12 hw5 ho5 hzl hzi e41 e42 e43 es hmem hatl hsl hst4;clear hw5 ho5 hzl hzi e41 e42 e43 es hmem hatl hsl hst4
        obtain⟨H64,HSS,HAT_⟩:=Zq3 h64 hsS hat_;clear h64 hsS hat_
        go_wp2_with fail;refine wp_region_later [(⟨a3,0,none⟩,.slice (some ⟨ul,0,none⟩) n n),(⟨ul,an,none⟩,.int .i64 zl),(⟨a1,0,none⟩,.slice (some ⟨ui,0,none⟩) n n),(⟨ui,an,none⟩,.int .i64 zl)] (by kernel_rfl) (by kernel_rfl) (by simp[go_sem, *]) ?_;intro hk;simp only[List.forall_mem_cons]at hk;obtain⟨k19_0,k19_1,k19_2,k19_3,kz⟩:=hk;clear kz
        repeat go_big_quiet_step (fail)
        refine wpQuiet_nil ?_;rintro w2 ⟨u19,rfl⟩;have HU19:=Zq1 u19.h;clear k19_0 k19_1 k19_2 k19_3;have hw6:=HW5.out.ext HU19.out;have ho6:=HO5.out.bel HU19.out;have hs6:=HSS.out.ext HU19.out;clear d1 d2 d3 d4 HU19;generalize u19.w=w6 at *;have hix:=indexI_any (some ⟨sb,0,none⟩) sl sc s4.stack (an:Int) w6 hs6;rw[idx_of s4.stack 0 HMEM.out,Int.zero_add,← HAT_.out]at hix;have d5:w6.cell? ⟨a5,0,none⟩=some (.slice (some ⟨sb,0,none⟩) sl sc):=hw6.b5.cell 0;have v0:(0:Int)≤(at_:Int):=(by omega);have v1:(at_:Int)≤(sl:Int):=(by omega);have v2:(at_:Int)<(sl:Int):=(by omega);have v3:¬sc=at_:=(by omega);have hdr:=sl_from rfl hs6 (k:=at_) (by omega);rw[Nat.zero_add]at hdr;have hcl:=cloneI_own (some ⟨sb,at_,none⟩) (sl-at_) (sc-at_) (s4.stack.drop at_) w6 w6 hdr (Below.refl _ _) (by omega)
        obtain⟨HW6,HO6,HS6,HIX,HDR,HCL⟩:=Zq6 hw6 ho6 hs6 hix hdr hcl;clear hw6 ho6 hs6 hix hdr hcl
        go_wp2_with fail;go_fit HIX.out;rintro e w' ⟨rfl,rfl⟩;go_wp2_with fail;go_fit HCL.out;rintro e w7 ⟨cA,cl,ccp,rfl,hoc,hcl_,hb7⟩;have hci:=ownB_int hoc;have hcl0:(s4.stack.drop at_).length=sl-at_:=(by rw[List.length_drop,← HSL.out]);rw[← hcl_]at hci hcl0
        obtain⟨cb,cp2,e,hcbB,-⟩:=World.ownsRow.form hci.2 (by omega)
        injection e with e1 _ e2;subst e1 e2
        have hw7:=(HW6.out.more (Y:=[cg]++[cb]) (fun q hq=>by
         rcases List.mem_append.1 hq with q1 | q1
         ·exact .inl q1
         ·exact .inr (by simp at q1;omega))).ext hb7
        have ho7:=HO6.out.bel hb7;have d6:w7.cell? ⟨a5,0,none⟩=some (.slice (some ⟨sb,0,none⟩) sl sc):=hw7.b5.cell 0;have f6:=hw7.b5.frozen 0;have hst7:=hw7.st;rw[← HSL.out]at hst7;have htk7:=hst7.take (k:=at_) (by omega)
        have htl:(s4.stack.take at_).length=at_:=by
         have:=HSL.out
         rw[List.length_take];omega
        have htk8:OwnI w7 B (.slice (some ⟨sb,0,none⟩) at_ sc) (s4.stack.take at_).length (s4.stack.take at_):=(by rw[htl];exact htk7);have hw8:=hw7.stack htk8 (grown_refl _ _) (fun k hk=>.inl hk);have k8:Kept [a5] w7 (w7.setCell ⟨a5,0,none⟩ (.slice (some ⟨sb,0,none⟩) at_ sc)):=(Kept.refl _ _).set (.inl (by simp)) _;have hsz6:=HW6.out.sz
        have ho8:=ho7.keptS k8 (fun q hq hm=>by
         have e1:q=a5:=(by simpa using hm);have e2:cg=q:=(by simpa[Value.ownBlock]using hq);exact HCGN.out a5 (by simp) (e2.trans e1))
        have hci8:=hci.keptS k8 (fun q hq hm=>by
         have e1:q=a5:=(by simpa using hm);have e2:cb=q:=(by simpa[Value.ownBlock]using hq)
         have:=(HW6.out.lt a5 (by simp)).2;omega)
        have hsb6:sb<w6.heap.size:=(HW6.out.st_lt rfl).2;have hov6:∀k,ov2.ownBlock=some k→k<w6.heap.size:=fun k hk=>(HW6.out.ou_lt hk).2;have hlo6:∀k∈[a1,a2,a3,a4,a5,a6,a7,ui,ul,uo],k<w6.heap.size:=fun k hk=>by have:=(HW6.out.lt k hk).2;omega
        have hcg6:cg<w6.heap.size:=(HO6.out.2.lt cg rfl).2
        obtain⟨HOC,HB7,HCI,HCL0,HW7,HO7,HST7,HTK7,HTK8,HTL,HW8,K8⟩:=Zq12 hoc hb7 hci hcl0 hw7 ho7 hst7 htk7 htk8 htl hw8 k8;clear hoc hb7 hci hcl0 hw7 ho7 hst7 htk7 htk8 htl hw8 k8
        obtain⟨HO8,HCI8,HOV6,HLO6,HCL_⟩:=Zq5 ho8 hci8 hov6 hlo6 hcl_;clear ho8 hci8 hov6 hlo6 hcl_
        go_wp2_with fail;clear d5 d6 f6;generalize w7.setCell ⟨a5,0,none⟩ (.slice (some ⟨sb,0,none⟩) at_ sc)=w8 at *
        have hccp:cl≤ccp:=by
         obtain⟨_,_,e,h⟩:=HCI8.out.sl (by have:=HCL_.out;have:=HCL0.out;omega) (fun x hx=>H64.out x (List.mem_of_mem_drop hx))
         injection e with _ _ e;subst e;exact h.cap
        go_loopw [164] (fun t wr=>∃q:Nat,q≤cl∧t=.int .i64 (q:Int)∧TW w0 n a1 a2 a3 a4 a5 a6 a7 ui ul uo B (some ⟨rb,ro,none⟩) gc ([cg]++[cb]) wr { s4 with stack:=s4.stack.take at_,on:=offAll s4.on ((s4.stack.drop at_).take q) } (.slice (some ⟨sb,0,none⟩) at_ sc) ov2∧Kept [uo] w8 wr) (fun t _=>cl-(intOf t).toNat)
        case atStart=>exact⟨0,Nat.zero_le _,rfl,HW8.out,Kept.refl _ _⟩
        case round=>
         obtain⟨q,hq,rfl,hw9,hk9⟩:=hrel
         obtain⟨w9,rfl⟩:∃w9:World,w9=wr:=⟨_,rfl⟩
         have hci9:=HCI8.out.keptS hk9 (fun k hk hm=>by
          have e1:k=uo:=(by simpa using hm);have e2:cb=k:=(by simpa[Value.ownBlock]using hk)
          have:=HLO6.out uo (by simp);omega)
         have ho9:=HO8.out.keptS hk9 (fun k hk hm=>by
          have e1:k=uo:=(by simpa using hm);have e2:cg=k:=(by simpa[Value.ownBlock]using hk);exact HCGN.out uo (by simp) (e2.trans e1))
         obtain⟨cA9,cc9,e,hcs9⟩:=hci9.sl (by have:=HCL_.out;have:=HCL0.out;omega) (fun x hx=>H64.out x (List.mem_of_mem_drop hx))
         injection e with e1 _ e2;subst e1 e2;have hccm:=hcs9.max
         by_cases hql:q<cl
         ·obtain⟨b,hb,-⟩:=hcs9.drop hql
          obtain⟨cb2,co2,e,lb9,cb9,b64⟩:=hcs9.int hb
          injection e with e;injection e with e1 e2 _;subst e1 e2;rw[Nat.zero_add]at cb9;have hbm:=List.mem_of_mem_drop (List.mem_of_getElem? hb);have hbv:=U1.out.vis b hbm
          obtain⟨bn,rfl⟩:∃bn:Nat,b=(bn:Int):=⟨b.toNat,by omega⟩
          have hbn:bn<n:=(by have:=HGL.out;omega);have t0:(0:Int)≤(q:Int):=(by omega);have t1:(q:Int)<(cl:Int):=(by omega);have t2:(0:Int)≤(bn:Int):=(by omega);have t3:(bn:Int)<(n:Int):=(by omega);have g1:w9.cell? ⟨a4,0,none⟩=some (.slice (some ⟨uo,0,none⟩) n n):=hw9.b4.cell 0;have eol:(offAll s4.on ((s4.stack.drop at_).take q)).length=n:=(by rw[offAll_len];exact E43.out)
          obtain⟨zo,g2⟩:∃zo,w9.cell? ⟨uo,bn,none⟩=some (.int .i64 zo):=⟨_,by rw[hw9.on.cell];exact intC_at eol hbn⟩
          have g3:=hw9.on.frozen bn;have hwA:=hw9.setO bn 0;have eon:offAll s4.on ((s4.stack.drop at_).take (q+1))=updZ (offAll s4.on ((s4.stack.drop at_).take q)) (bn:Int) 0:=(by rw[take_snoc' hb,offAll_snoc]);have hkA:=hk9.set (p:=⟨uo,bn,none⟩) (.inl (by simp)) (.int .i64 0);have hwB:TW w0 n a1 a2 a3 a4 a5 a6 a7 ui ul uo B (some ⟨rb,ro,none⟩) gc ([cg]++[cb]) (w9.setCell ⟨uo,bn,none⟩ (.int .i64 0)) { s4 with stack:=s4.stack.take at_,on:=offAll s4.on ((s4.stack.drop at_).take (q+1)) } (.slice (some ⟨sb,0,none⟩) at_ sc) ov2:=(by rw[eon];exact hwA)
          obtain⟨HW9,HK9,HCI9,HO9,HCS9,HB,HBM,HBV,EOL,HWA,EON,HKA⟩:=Zq12 hw9 hk9 hci9 ho9 hcs9 hb hbm hbv eol hwA eon hkA;clear hw9 hk9 hci9 ho9 hcs9 hb hbm hbv eol hwA eon hkA
          obtain⟨HWB,B64⟩:=Zq2 hwB b64;clear hwB b64
          go_wp2_with fail;go_roundw;exact⟨q+1,by omega,by go_num,HWB.out,HKA.out⟩;simp[intOf];omega
         ·obtain rfl:cl=q:=(by omega);rw[List.take_of_length_le (Nat.le_of_eq HCL_.out.symm)]at hw9;have hclb:cl≤4001:=(by have:=HCL0.out;omega);have hsrt:=sortI_any hci9 (by omega)
          obtain⟨HW9,HK9,HCI9,HO9,HCS9,HSRT⟩:=Zq6 hw9 hk9 hci9 ho9 hcs9 hsrt;clear hw9 hk9 hci9 ho9 hcs9 hsrt
          go_wp2_with fail;go_fit HSRT.out;rintro e wA ⟨rfl,hciA,hgA⟩;have hcbx:∀k,k<w6.heap.size→k≠cb:=fun k hk e=>by omega
          have hwA0:=HW9.out.kept (S:=[cb]) (grown_kept hgA) (fun k hk=>by
           have e:k=cb:=(by simpa using hk);subst e
           exact⟨.inl (by simp),by omega,fun e=>hcbx sb hsb6 (by simpa[Value.ownBlock]using e),fun e=>hcbx k (HOV6.out k e) rfl⟩)
          have hwA:=hwA0.more (Y:=[cg]) (fun k hk=>.inl (List.mem_append.2 (.inl hk)))
          have hoA:=HO9.out.keptS (grown_kept hgA) (fun k hk hm=>by
           have e1:k=cb:=(by simpa[Value.ownBlock]using hm);have e2:cg=k:=(by simpa[Value.ownBlock]using hk);exact hcbx cg hcg6 (e2.trans e1))
          obtain⟨xA,xc,e,hxA⟩:=hciA.sl (by omega) (fun x hx=>H64.out x (List.mem_of_mem_drop (List.mem_mergeSort.1 hx)))
          injection e with e1 _ e2;subst e1 e2
          have hoff:Off (tM ([a1,a2,a3,a4,a5,a6,a7,ui,ul,uo]++List.range w0.heap.size) (.slice (some ⟨sb,0,none⟩) at_ sc) ov2 [cg]) (some ⟨cb,0,none⟩) cl:=fun _ ad e hm=>by
           cases e;rcases tM_mem.1 hm with q | q | q | q
           ·rcases List.mem_append.1 q with q | q
            ·exact hcbx cb (HLO6.out cb q) rfl
            ·have hz0:=HW6.out.bel.size;exact hcbx cb (Nat.lt_of_lt_of_le (List.mem_range.1 q) hz0) rfl
           ·exact hcbx sb hsb6 (by simpa[Value.ownBlock]using q)
           ·exact hcbx cb (HOV6.out cb q) rfl
           ·exact hcbx cg hcg6 (by
             have e:cb=cg:=(by simpa using q);exact e.symm)
          have hol:s4.out.length<1000000:=by
           have h1:=out_le HCO.out;have h2:s4.out=s2.out:=(by rw[HS4.out,HS3.out,tUp_out,tVisit_out])
           have:=HGL.out
           rw[h2];omega
          obtain⟨ov',wB,hrun,hkB,hatB,hb7B,hwC⟩:=hwA.out hxA hoff hol 61
          have hnoB:ov2.ownBlock≠some cg:=by
           obtain⟨cs,h1⟩:=hwA.ou
           exact own_ty2 hoA.2 h1.1 (by decide) (k:=cg) rfl
          have hoC:=(hoA.keptS hkB (fun k hk hm=>by
           have e2:cg=k:=(by simpa[Value.ownBlock]using hk);subst e2;exact hnoB (by simpa using hm))).keptS (S:=[a7]) (w':=wB.setCell ⟨a7,0,none⟩ ov') ((Kept.refl _ _).set (.inl (by simp)) _) (fun k hk hm=>by
           have e1:k=a7:=(by simpa using hm);have e2:cg=k:=(by simpa[Value.ownBlock]using hk);exact HCGN.out a7 (by simp) (e2.trans e1))
          have hF:=HFIN.out _ _ _ _ _ _ _ ES.out.symm (by show callL rest=callL s4.calls;rw[HC4.out]) hoC hwC
          obtain⟨oA,ol,oc,rfl⟩:∃A l c,ov2=.slice A l c:=by
           obtain⟨cs,h1⟩:=hwA.ou
           rcases h1.1.2 with⟨e,_⟩ | ⟨_,_,_,e,_⟩ <;> exact⟨_,_,_,e⟩
          obtain⟨pA,pl,pc,rfl⟩:∃A l c,ov'=.slice A l c:=by
           obtain⟨cs,h1⟩:=hwC.ou
           rcases h1.1.2 with⟨e,_⟩ | ⟨_,_,_,e,_⟩ <;> exact⟨_,_,_,e⟩
          have d7:wA.cell? ⟨a7,0,none⟩=some (.slice oA ol oc):=hwA.b7.cell 0;have d8:wB.cell? ⟨a7,0,none⟩=some (.slice oA ol oc):=hb7B.cell 0;have f8:=hb7B.frozen 0
          obtain⟨HCIA,HGA,HCBX,HWA0,HWA,HOA,HXA,HOFF,HOL,HRUN,HKB,HATB⟩:=Zq12 hciA hgA hcbx hwA0 hwA hoA hxA hoff hol hrun hkB hatB;clear hciA hgA hcbx hwA0 hwA hoA hxA hoff hol hrun hkB hatB
          obtain⟨HB7B,HWC,HNOB,HOC,HF⟩:=Zq5 hb7B hwC hnoB hoC hF;clear hb7B hwC hnoB hoC hF
          go_wp2_with (at_builtin;refine wpList_append_run rfl _ _ _ rfl _ _ rfl rfl _ _ HRUN.out ?_);go_roundw
          case rel=>exact HF.out.1
          case measure=>exact HF.out.2
       ·have z1:(zl==zi)=false:=(by simpa using hlz)
        have es:tStep g s2=s4:=by
         rw[ESTEP.out];unfold tComp;rw[if_neg (by rw[← hzl,← hzi];exact hlz)]
        obtain⟨HW5,HO5,HZL,HZI,E41,E42,E43,ES⟩:=Zq8 hw5 ho5 hzl hzi e41 e42 e43 es;clear hw5 ho5 hzl hzi e41 e42 e43 es
        go_wp2_with fail;refine wp_region_later [(⟨a3,0,none⟩,.slice (some ⟨ul,0,none⟩) n n),(⟨ul,an,none⟩,.int .i64 zl),(⟨a1,0,none⟩,.slice (some ⟨ui,0,none⟩) n n),(⟨ui,an,none⟩,.int .i64 zi)] (by kernel_rfl) (by kernel_rfl) (by simp[go_sem, *]) ?_;intro hk;simp only[List.forall_mem_cons]at hk;obtain⟨k19_0,k19_1,k19_2,k19_3,kz⟩:=hk;clear kz
        repeat go_big_quiet_step (fail)
        refine wpQuiet_nil ?_;rintro w2 ⟨u19,rfl⟩;have HU19:=Zq1 u19.h;clear k19_0 k19_1 k19_2 k19_3;have hF:=HFIN.out _ _ _ _ _ sv3 ov2 ES.out.symm (by rw[HC4.out]) (HO5.out.bel HU19.out) (HW5.out.ext HU19.out);clear d1 d2 d3 d4 HU19;generalize u19.w=w6 at *;have HF:=Zq1 hF;clear hF;go_wp2_with fail;go_roundw
        case rel=>exact HF.out.1
        case measure=>exact HF.out.2

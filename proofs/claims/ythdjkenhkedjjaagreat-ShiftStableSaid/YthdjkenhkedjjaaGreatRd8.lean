/- Rd8 -/
import Derived.Test.YthdjkenhkedjjaaGreatRd5
import Derived.Test.YthdjkenhkedjjaaGreatRd7
import Derived.Deep.RegionHeldLaw
import Derived.Deep.AppendLies
set_option maxRecDepth 100000
set_option maxHeartbeats 4000000
namespace Go.Proofs.YthdjkenhkedjjaaGreat
open Go.RowKit
def Frs (n:Nat)(A:OA)(l:Nat):Prop:=0<l→∀ad,A=some ad→n≤ad.block
theorem Frs.nil (n:Nat)(A:OA):Frs n A 0:=fun h=>absurd h (by simp)
theorem Frs.mono {n m:Nat}{A:OA}{l:Nat}(h:Frs n A l)(hm:m≤n):Frs m A l:=fun h0 ad e=>Nat.le_trans hm (h h0 ad e)
theorem OwnI.fresh {w:World}{base:Nat}{A:OA}{l c:Nat}{xs:LI}(h:OwnI w base (.slice A l c) l xs):Frs base A l:=fun h0 ad e=>by
 obtain⟨g,cap,e2,hb,_⟩:=World.ownsRow.form h.2 h0
 cases e2;cases e;exact hb
theorem info_rule:(Tryz.prog.info? 42).map (·.size)=some 6:=by kernel_rfl
abbrev ruleV (r:GRule)(h b w:Value):Value:=.agg #[.bool r.choice,h,.bool r.sum,.int .i64 r.bound,b,w]
theorem posSum_any (r:GRule)(hA:OA)(hl hc:Nat)(bA:OA)(bl bc:Nat)(wA:OA)(wl wc:Nat)(a:Nat)(ms:LI)(n:Int)(w:World)(hr:RuleIn w r hA hl hc bA bl bc wA wl wc)(hm:MemIn w a ms)(hi:RuleIs r n)(hs:r.sum=true):
  Calls Tryz.prog 116 #[.agg #[.bool r.choice,.slice hA hl hc,.bool r.sum,.int .i64 r.bound,.slice bA bl bc,.slice wA wl wc],.func (.func 117) #[] #[.pointer (some ⟨a,0,none⟩)]] w fun e w'=>
   ∃(bA':OA) (bl' bc':Nat) (wA':OA) (wl' wc':Nat),e=.returned (.tuple #[ruleV (posRule r ms) (.slice none 0 0) (.slice bA' bl' bc') (.slice wA' wl' wc'),.bool true]) ∧
    RuleIn w' (posRule r ms) none 0 0 bA' bl' bc' wA' wl' wc'∧Frs w.heap.size bA' bl'∧Frs w.heap.size wA' wl'∧Below w.heap.size w w':=by
 have hbc:=hr.body.cap;have hbm:=hr.body.max;have hwc:=hr.wt.cap;have hwm:=hr.wt.max;have hbs:=hr.body.small;have hwl:=hi.wlen hs;rw[← hr.body.len,← hr.wt.len]at hwl;have hw0:=wtGo_spec r.w 0 (by omega) (by omega) (hi.wt hs);have hb0:=hi.b0 hs;have hb1:=hi.b1 hs;have hnb:=fun k=>negS_bd ms r.body r.w k fun y hy=>by have:=hw0.1 y hy;omega
 rw[show r.body.zip r.w=zp r from rfl]at hnb;subst hwl;have hfin:posRule r ms=if r.bound-negS ms (zp r)≤0 then zeroRule else⟨false,[],true,r.bound-negS ms (zp r),r.body.filter isPos,posW (zp r)⟩:=by unfold posRule;rw[if_pos hs]
 obtain⟨HR,HM,HI,HW0,HNB,HFIN⟩:=Zq6 hr hm hi hw0 hnb hfin;clear hr hm hi hw0 hnb hfin
 rw[hs];have HS:=Zq1 hs;clear hs;go_enter Tryz.func116,Tryz.ntmps116;go_wp2_with fail
 have hW:Blk (((w.alloc (.cells #[.bool r.choice,.slice hA hl hc,.bool true,.int .i64 r.bound,.slice bA wl bc,.slice wA wl wc] 42)).alloc (.cells #[.bool false,.slice none 0 0,.bool false,.int .i64 0,.slice none 0 0,.slice none 0 0] 42)).alloc (.cells #[.bool false,.slice none 0 0,.bool true,.int .i64 r.bound,.slice none 0 0,.slice none 0 0] 42)) w.heap.size 42 #[.bool r.choice,.slice hA hl hc,.bool true,.int .i64 r.bound,.slice bA wl bc,.slice wA wl wc]∧Blk (((w.alloc (.cells #[.bool r.choice,.slice hA hl hc,.bool true,.int .i64 r.bound,.slice bA wl bc,.slice wA wl wc] 42)).alloc (.cells #[.bool false,.slice none 0 0,.bool false,.int .i64 0,.slice none 0 0,.slice none 0 0] 42)).alloc (.cells #[.bool false,.slice none 0 0,.bool true,.int .i64 r.bound,.slice none 0 0,.slice none 0 0] 42)) (w.heap.size+1) 42 #[.bool false,.slice none 0 0,.bool false,.int .i64 0,.slice none 0 0,.slice none 0 0]∧Blk (((w.alloc (.cells #[.bool r.choice,.slice hA hl hc,.bool true,.int .i64 r.bound,.slice bA wl bc,.slice wA wl wc] 42)).alloc (.cells #[.bool false,.slice none 0 0,.bool false,.int .i64 0,.slice none 0 0,.slice none 0 0] 42)).alloc (.cells #[.bool false,.slice none 0 0,.bool true,.int .i64 r.bound,.slice none 0 0,.slice none 0 0] 42)) (w.heap.size+1+1) 42 #[.bool false,.slice none 0 0,.bool true,.int .i64 r.bound,.slice none 0 0,.slice none 0 0]∧Below w.heap.size w (((w.alloc (.cells #[.bool r.choice,.slice hA hl hc,.bool true,.int .i64 r.bound,.slice bA wl bc,.slice wA wl wc] 42)).alloc (.cells #[.bool false,.slice none 0 0,.bool false,.int .i64 0,.slice none 0 0,.slice none 0 0] 42)).alloc (.cells #[.bool false,.slice none 0 0,.bool true,.int .i64 r.bound,.slice none 0 0,.slice none 0 0] 42))∧(((w.alloc (.cells #[.bool r.choice,.slice hA hl hc,.bool true,.int .i64 r.bound,.slice bA wl bc,.slice wA wl wc] 42)).alloc (.cells #[.bool false,.slice none 0 0,.bool false,.int .i64 0,.slice none 0 0,.slice none 0 0] 42)).alloc (.cells #[.bool false,.slice none 0 0,.bool true,.int .i64 r.bound,.slice none 0 0,.slice none 0 0] 42)).heap.size=w.heap.size+1+1+1:=
  ⟨((blk_new rfl _ _).alloc _).alloc _,(blk_new (by simp) _ _).alloc _,blk_new (by simp) _ _,bel_trans (bel_trans (bel_alloc _ _) (bel_alloc _ _)) (bel_alloc _ _),by simp⟩
 generalize ((w.alloc (.cells #[.bool r.choice,.slice hA hl hc,.bool true,.int .i64 r.bound,.slice bA wl bc,.slice wA wl wc] 42)).alloc (.cells #[.bool false,.slice none 0 0,.bool false,.int .i64 0,.slice none 0 0,.slice none 0 0] 42)).alloc (.cells #[.bool false,.slice none 0 0,.bool true,.int .i64 r.bound,.slice none 0 0,.slice none 0 0] 42)=W0 at *
 obtain⟨bR,bZ,bO,bW,hsz⟩:=hW
 obtain⟨BR,BZ,BO,BW,HSZ⟩:=Zq5 bR bZ bO bW hsz;clear bR bZ bO bW hsz
 go_loopw [17] (fun t wr=>∃(k:Nat) (bv wv:Value) (lb lw:Nat),k≤wl∧t=.int .i64 (k:Int)∧Blk wr (w.heap.size+1+1) 42 #[.bool false,.slice none 0 0,.bool true,.int .i64 (r.bound-negS ms ((zp r).take k)),bv,wv]∧OwnI wr W0.heap.size bv lb ((r.body.take k).filter isPos) ∧
   OwnI wr W0.heap.size wv lw (posW ((zp r).take k))∧(∀q,bv.ownBlock=some q→wv.ownBlock≠some q)∧Kept [(w.heap.size+1+1)] W0 wr) (fun t _=>wl-(intOf t).toNat)
 case atStart=>exact⟨0,_,_,0,0,Nat.zero_le _,rfl,by simpa[negS]using BO.out,OwnI.nil _ _,by simpa[posW]using OwnI.nil _ _,by simp[Value.ownBlock],Kept.refl _ _⟩
 case round=>
  obtain⟨k,bv,wv,lb,lw,hk,rfl,bo,ob,ow,hne,hkp⟩:=hrel
  have hB:=Zq1 (Kept.below BW.out hkp (by rw[HSZ.out];omega) (fun q hq=>by simp at hq;omega));have rR:=hkp.blk BR.out (by simp <;> omega);have rZ:=hkp.blk BZ.out (by simp <;> omega);have hz0:=HSZ.out;have hz1:=hkp.size
  have hlb:lb≤k:=by
   rw[ob.len];have h1:=List.length_filter_le isPos (r.body.take k);have h2:=List.length_take_le k r.body;omega
  have hlw:lw≤k:=by
   rw[ow.len];have h1:=posW_len ((zp r).take k);have h2:=List.length_take_le k (zp r);omega
  have hnk:=HNB.out k;generalize hz:r.bound-negS ms ((zp r).take k)=z at *;have z0 : -1048576≤z:=by have:=HW0.out.2;omega
  have z1:z≤1048576:=(by omega);clear hnk;have hbl:w.heap.size+1+1<wr.heap.size:=(by omega);clear hz0
  by_cases hlt:k<wl
  ·obtain⟨x,hx,-⟩:=HR.out.body.drop hlt
   obtain⟨y,hy,-⟩:=HR.out.wt.drop hlt
   obtain⟨xb,xo,rfl,lx,cx,_⟩:=HR.out.body.int hx
   obtain⟨yb,yo,rfl,ly,cy,_⟩:=HR.out.wt.int hy
   replace cx:=(hB.out.cell (World.block_lt_of_cell? _ _ cx)).trans cx;replace cy:=(hB.out.cell (World.block_lt_of_cell? _ _ cy)).trans cy;have hxl:=HI.out.ok.lit x (List.mem_of_getElem? hx);have hxu:=(HR.out.body.all64 x (List.mem_of_getElem? hx)).2;have hy1:=HW0.out.1 y (List.mem_of_getElem? hy);have hzp:=zp_at hx hy;have e1:=filt_take hx;have e2:=posW_take hzp;have e3:r.bound-negS ms ((zp r).take (k+1))=z-(if x≤0∧-x∉ms then y else 0):=(by rw[take_snoc' hzp,negS_app,← hz];simp only;omega);have r2:wr.cell? ⟨w.heap.size,2,none⟩=some (.bool true):=rR.cell 2;have r5:wr.cell? ⟨w.heap.size,5,none⟩=some (.slice (some ⟨yb,yo,none⟩) wl wc):=rR.cell 5;have o3:wr.cell? ⟨w.heap.size+1+1,3,none⟩=some (.int .i64 z):=bo.cell 3;have o4:wr.cell? ⟨w.heap.size+1+1,4,none⟩=some bv:=bo.cell 4;have o5:wr.cell? ⟨w.heap.size+1+1,5,none⟩=some wv:=bo.cell 5;have k0:(0:Int)≤(k:Int):=(by omega);have k1:(k:Int)<(wl:Int):=(by omega)
   by_cases hp:0<x
   ·have hip:isPos x=true:=decide_eq_true hp;rw[hip,if_pos rfl]at e1 e2;rw[if_neg (fun h=>by omega),Int.sub_zero]at e3
    obtain⟨v1,w3,hrun,own1,hg1,hat1⟩:=app1 ob x (by omega) (by omega) 23
    obtain⟨g1,cap1,rfl,hgb1,hgl1⟩:=World.ownsRow.form own1.2 (by omega)
    have hro:some (w.heap.size+1+1)≠bv.ownBlock:=fun e=>by have:=(ob.2.lt _ e.symm).1;have:=HSZ.out;omega
    have c4:=(hg1.cell_far ⟨w.heap.size+1+1,4,none⟩ hbl hro).trans o4;have f4:=(hg1.frozen_far ⟨w.heap.size+1+1,4,none⟩ hbl hro).trans (bo.frozen 4);have k1':Kept [w.heap.size+1+1] w3 (w3.setCell ⟨w.heap.size+1+1,4,none⟩ (.slice (some ⟨g1,0,none⟩) (lb+1) cap1)):=(Kept.refl _ _).set (.inl (by simp)) _;have bo':Blk (w3.setCell ⟨w.heap.size+1+1,4,none⟩ (.slice (some ⟨g1,0,none⟩) (lb+1) cap1)) (w.heap.size+1+1) 42 #[.bool false,.slice none 0 0,.bool true,.int .i64 z,.slice (some ⟨g1,0,none⟩) (lb+1) cap1,wv]:=(bo.grown hg1 hro).set_ 4 _
    have ow':=(ow.kept hg1 (by
     cases hq:wv.ownBlock with
     |none=>exact .inl rfl
     |some q=>exact .inr fun e=>hne q e.symm hq)).keptS k1' (fun q hq hm=>by have:=(ow.2.lt q hq).1;have:=HSZ.out;simp at hm;omega)
    have ob':=own1.keptS k1' (fun q hq hm=>by have:=(own1.2.lt q hq).1;have:=HSZ.out;simp at hm;omega);have kp':=(hkp.grown hg1 (fun q hq=>.inr (ob.2.lt q hq).1)).set (p:=⟨w.heap.size+1+1,4,none⟩) (.inl (by simp)) (.slice (some ⟨g1,0,none⟩) (lb+1) cap1)
    have hne':wv.ownBlock≠some g1:=fun e=>by
     rcases hat1 g1 rfl with h1 | h1
     ·exact hne g1 h1 e
     ·have:=(ow.2.lt g1 e).2;omega
    have hsz3:wr.heap.size≤(w3.setCell ⟨w.heap.size+1+1,4,none⟩ (.slice (some ⟨g1,0,none⟩) (lb+1) cap1)).heap.size:=(by have:=hg1.size;simpa[World.setCell]using this)
    obtain⟨E1,E2,E3,BO,OB,OW,HNE,HKP,RR,RZ,HX,HY⟩:=Zq12 e1 e2 e3 bo ob ow hne hkp rR rZ hx hy;clear e1 e2 e3 bo ob ow hne hkp rR rZ hx hy
    obtain⟨HZP,HZ,HRUN,OWN1,HG1,HAT1,BO',OW',OB',KP',HNE',HRO⟩:=Zq12 hzp hz hrun own1 hg1 hat1 bo' ow' ob' kp' hne' hro;clear hzp hz hrun own1 hg1 hat1 bo' ow' ob' kp' hne' hro
    have c2:=(HG1.out.cell_far ⟨w.heap.size,2,none⟩ (show w.heap.size<wr.heap.size by omega) (fun e=>by have h5:W0.heap.size≤w.heap.size:=(OB.out.2.lt _ e.symm).1;have:=HSZ.out;omega)).trans r2;clear r2 r5 o3 o5 cy;go_wp2_with (at_builtin;refine wpList_append_run rfl _ _ _ rfl _ _ rfl rfl _ _ HRUN.out ?_);generalize w3.setCell ⟨w.heap.size+1+1,4,none⟩ (.slice (some ⟨g1,0,none⟩) (lb+1) cap1)=W at *;clear c4 f4 o4 k1' c2;have hBW:=Zq1 (Kept.below BW.out KP'.out (by rw[HSZ.out];omega) (fun q hq=>by simp at hq;omega));have r2:W.cell? ⟨w.heap.size,2,none⟩=some (.bool true):=(KP'.out.blk BR.out (by simp <;> omega)).cell 2;have r5:W.cell? ⟨w.heap.size,5,none⟩=some (.slice (some ⟨yb,yo,none⟩) wl wc):=(KP'.out.blk BR.out (by simp <;> omega)).cell 5
    obtain⟨_,_,he,_,cy0,_⟩:=HR.out.wt.int HY.out
    cases he;have cy:=(hBW.out.cell (World.block_lt_of_cell? _ _ cy0)).trans cy0;have k5:W.cell? ⟨w.heap.size+1+1,5,none⟩=some wv:=BO'.out.cell 5;have kf5:W.frozen? ⟨w.heap.size+1+1,5,none⟩=false:=BO'.out.frozen 5;have k5l:=World.block_lt_of_cell? _ _ k5;have hw5:some (w.heap.size+1+1)≠wv.ownBlock:=fun e=>by have:=(OW'.out.2.lt _ e.symm).1;have:=HSZ.out;omega
    clear cy0
    obtain⟨ii,hi0,hz0,hz1,hz2⟩:=info_parts info_int
    have hbase:W0.heap.size≤W.heap.size:=(by omega);have HW5:=Zq1 hw5;clear hw5;go_wp2_with fail
    go_region_law
     ((
      refine step_append_lies _ (by rfl) _ _ _ (by rfl) W0.heap.size 3 ii _ 1 8 Tryz.underlying23 hi0 hz0 hz1 hz2 rfl (by omega) wv lw ((posW ((zp r).take k)).map (Value.int .i64)) (by rfl) ((OW'.out.2.alloc _).drew)
       ⟨W.heap.size,0,none⟩ 1 1 [.int .i64 y] (by rfl) (by rfl) (World.news_of_block (cs:=#[.int .i64 y]) (t:=3) (fr:=(0,0)) (heap_alloc_new W _)) (by simp[Value.oneCell'])
       (by omega) (by unfold maxLen;omega) (by omega) (by simp;omega) (W.heap.size+1) (by simp) ?_;intro gg cap w4 hown4 hgrow4 hat4 hlt4
      have hz9:w4.cell? ⟨w.heap.size+1+1,5,none⟩=some wv:=(hgrow4.cell_far ⟨w.heap.size+1+1,5,none⟩ (by simp;omega) HW5.out).trans (((bel_alloc W _).drew.cell k5l).trans k5);have hy9:w4.frozen? ⟨w.heap.size+1+1,5,none⟩=false:=(hgrow4.frozen_far ⟨w.heap.size+1+1,5,none⟩ (by simp;omega) HW5.out).trans (((bel_alloc W _).drew.frozen k5l).trans kf5)))
    all_goals
     have HG:=Zq1 (grown_grown (grown_drew (grown_alloc (grown_refl W wv.ownBlock) _)) hgrow4 (fun k hk=>.inl hk));have HT:=Zq1 hown4;have HA4:=Zq1 hat4;clear hown4 hgrow4 hat4;have k2':Kept [w.heap.size+1+1] w4 (w4.setCell ⟨w.heap.size+1+1,5,none⟩ (.slice (some ⟨gg,0,none⟩) (lw+1) cap)):=(Kept.refl _ _).set (.inl (by simp)) _;have bo2:Blk (w4.setCell ⟨w.heap.size+1+1,5,none⟩ (.slice (some ⟨gg,0,none⟩) (lw+1) cap)) (w.heap.size+1+1) 42 #[.bool false,.slice none 0 0,.bool true,.int .i64 z,.slice (some ⟨g1,0,none⟩) (lb+1) cap1,.slice (some ⟨gg,0,none⟩) (lw+1) cap]:=(BO'.out.grown HG.out HW5.out).set_ 5 _;have ow2:OwnI w4 W0.heap.size (.slice (some ⟨gg,0,none⟩) (lw+1) cap) (lw+1) (posW ((zp r).take k)++[y]):=⟨by rw[OW'.out.1];simp,by rw[List.map_append];exact HT.out⟩;have ow3:=ow2.keptS k2' (fun q hq hm=>by have:=(ow2.2.lt q hq).1;have:=HSZ.out;simp at hm;omega)
     have ob2:=(OB'.out.kept HG.out (by
      cases hq:wv.ownBlock with
      |none=>exact .inr (by simp[Value.ownBlock])
      |some q=>exact .inr fun e=>HNE'.out (by rw[hq];exact e.symm))).keptS k2' (fun q hq hm=>by have:=(OB'.out.2.lt q hq).1;have:=HSZ.out;simp at hm;omega)
     have hn2:∀q,(Value.slice (some ⟨g1,0,none⟩) (lb+1) cap1).ownBlock=some q→(Value.slice (some ⟨gg,0,none⟩) (lw+1) cap).ownBlock≠some q:=fun q hq e=>by
      have h1:q=g1:=(by simpa[Value.ownBlock]using hq.symm);have h2:q=gg:=(by simpa[Value.ownBlock]using e.symm);rcases HA4.out with h3 | h3
      ·exact HNE'.out (by rw[h3,← h2,h1])
      ·have:=(OB'.out.2.lt g1 rfl).2;omega
     have kp2:=(KP'.out.grown HG.out (fun q hq=>.inr (OW'.out.2.lt q hq).1)).set (p:=⟨w.heap.size+1+1,5,none⟩) (.inl (by simp)) (.slice (some ⟨gg,0,none⟩) (lw+1) cap)
     obtain⟨K2',BO2,OW2,OW3,OB2,HN2,KP2⟩:=Zq7 k2' bo2 ow2 ow3 ob2 hn2 kp2;clear k2' bo2 ow2 ow3 ob2 hn2 kp2
     go_wp2_with fail;go_roundw;exact⟨k+1,_,_,lb+1,lw+1,by omega,by go_num,by rw[E3.out];exact BO2.out,by rw[E1.out];exact OB2.out,by rw[E2.out];exact OW3.out,HN2.out,KP2.out⟩;simp[intOf];omega
   ·have hip:isPos x=false:=decide_eq_false hp;rw[hip]at e1 e2;simp only[Bool.false_eq_true,if_false]at e1 e2;have hmi:=HM.out.ext hB.out
    by_cases hin : -x∈ms
    ·have hd:decide (-x∈ms)=true:=decide_eq_true hin;rw[if_neg (fun h=>h.2 hin),Int.sub_zero]at e3;have cM:=memberF_any (-x) a ms wr hmi ⟨by omega,by omega⟩;rw[hd]at cM
     obtain⟨E1,E2,E3,BO,OB,OW,HNE,HKP,RR,RZ,HX,HY⟩:=Zq12 e1 e2 e3 bo ob ow hne hkp rR rZ hx hy;clear e1 e2 e3 bo ob ow hne hkp rR rZ hx hy
     obtain⟨HZP,HZ,HMI,CM,HD,HIN⟩:=Zq6 hzp hz hmi cM hd hin;clear hzp hz hmi cM hd hin
     go_wp2_with fail;go_fit CM.out;rintro e w' ⟨rfl,rfl⟩;go_wp2_with fail;go_roundw;exact⟨k+1,_,_,lb,lw,by omega,by go_num,by rw[E3.out];exact BO.out,by rw[E1.out];exact OB.out,by rw[E2.out];exact OW.out,HNE.out,HKP.out⟩;simp[intOf];omega
    ·have hd:decide (-x∈ms)=false:=decide_eq_false hin;rw[if_pos ⟨by omega,hin⟩]at e3;have cM:=memberF_any (-x) a ms wr hmi ⟨by omega,by omega⟩;rw[hd]at cM;have hnk2:=HNB.out (k+1);have z2 : -1048576≤z-y:=(by have:=HW0.out.2;omega);have w0:IntKind.i64.wrap (z-y)=z-y:=IntWalk.i64_in _ (by omega);have kf3:wr.frozen? ⟨w.heap.size+1+1,3,none⟩=false:=bo.frozen 3;clear hnk2;have k1':Kept [w.heap.size+1+1] wr ((wr.setCell ⟨w.heap.size+1+1,3,none⟩ (.int .i64 (z-y))).drew):=((Kept.refl _ _).set (.inl (by simp)) _).drew;have bo':Blk ((wr.setCell ⟨w.heap.size+1+1,3,none⟩ (.int .i64 (z-y))).drew) (w.heap.size+1+1) 42 #[.bool false,.slice none 0 0,.bool true,.int .i64 (z-y),bv,wv]:=(bo.set_ 3 (.int .i64 (z-y))).drew;have ob':=ob.keptS k1' (fun q hq hm=>by have:=(ob.2.lt q hq).1;have:=HSZ.out;simp at hm;omega);have ow':=ow.keptS k1' (fun q hq hm=>by have:=(ow.2.lt q hq).1;have:=HSZ.out;simp at hm;omega);have kp':=(hkp.set (p:=⟨w.heap.size+1+1,3,none⟩) (.inl (by simp)) (.int .i64 (z-y))).drew
     obtain⟨E1,E2,E3,BO,OB,OW,HNE,HKP,RR,RZ,HX,HY⟩:=Zq12 e1 e2 e3 bo ob ow hne hkp rR rZ hx hy;clear e1 e2 e3 bo ob ow hne hkp rR rZ hx hy
     obtain⟨HZP,HZ,HMI,CM,HD,HIN,BO',OB',OW',KP',K1'⟩:=Zq11 hzp hz hmi cM hd hin bo' ob' ow' kp' k1';clear hzp hz hmi cM hd hin bo' ob' ow' kp' k1'
     go_wp2_with fail;go_fit CM.out;rintro e w' ⟨rfl,rfl⟩;go_wp2_with fail;go_region;generalize (wr.setCell ⟨w.heap.size+1+1,3,none⟩ (.int .i64 (z-y))).drew=Y at *;go_wp2_with fail;go_roundw;exact⟨k+1,_,_,lb,lw,by omega,by go_num,by rw[E3.out];exact BO'.out,by rw[E1.out];exact OB'.out,by rw[E2.out];exact OW'.out,HNE.out,KP'.out⟩;simp[intOf];omega
  ·have hkl:k=wl:=(by omega)
   have hzl:(zp r).length≤wl:=by
    have h3:(zp r).length≤r.body.length:=(by unfold zp;rw[List.length_zip];omega);have h4:=HR.out.body.len;omega
   rw[hkl,List.take_of_length_le hzl]at hz ow;rw[hkl,List.take_of_length_le (by have:=HR.out.body.len;omega)]at ob;have r2:wr.cell? ⟨w.heap.size,2,none⟩=some (.bool true):=rR.cell 2;have o3:wr.cell? ⟨w.heap.size+1+1,3,none⟩=some (.int .i64 z):=bo.cell 3
   by_cases hz0:z≤0
   ·have d1:decide (z≤0)=true:=decide_eq_true hz0;have hpr:posRule r ms=zeroRule:=(by rw[HFIN.out,if_pos (by rw[hz];exact hz0)]);have fz:=rZ.row #[.bool false,.slice none 0 0,.bool false,.int .i64 0,.slice none 0 0,.slice none 0 0];have fb:Below w.heap.size w (wr.setRow (w.heap.size+1) #[.bool false,.slice none 0 0,.bool false,.int .i64 0,.slice none 0 0,.slice none 0 0]):=Kept.below hB.out ((Kept.refl [w.heap.size+1] wr).row (.inl (by simp)) _) (by omega) (fun q hq=>by simp at hq;omega)
    obtain⟨BO,OB,OW,HNE,HKP,RR,RZ,HZ,HKL,HZL,HPR,FZ⟩:=Zq12 bo ob ow hne hkp rR rZ hz hkl hzl hpr fz;clear bo ob ow hne hkp rR rZ hz hkl hzl hpr fz
    have FB:=Zq1 fb;clear fb;go_wp2_with (refine wpList_store_row (by rfl) 42 _ _ (by rfl) (w.heap.size+1) #[.bool false,.slice none 0 0,.bool false,.int .i64 0,.slice none 0 0,.slice none 0 0] (by rfl) (by rfl) 42 _ RZ.out info_rule (by rfl) (by simp[Value.oneCell']) ?_);refine bodyPost_ret (results_row_tmp rfl _ _ (w.heap.size+1) 42 #[.bool false,.slice none 0 0,.bool false,.int .i64 0,.slice none 0 0,.slice none 0 0] _ (.bool true) rfl rfl FZ.out Tryz.underlying42 rfl info_rule) rfl ?_;rw[HPR.out]
    exact⟨none,0,0,none,0,0,rfl,⟨SlIs.nil _ _,by simp[zeroRule,I64],SlIs.nil _ _,SlIs.nil _ _⟩,Frs.nil _ _,Frs.nil _ _,FB.out⟩
   ·have d1:decide (z≤0)=false:=decide_eq_false hz0;have hpr:posRule r ms=⟨false,[],true,z,r.body.filter isPos,posW (zp r)⟩:=(by rw[HFIN.out,if_neg (by rw[hz];exact hz0),hz]);have hx1:∀x∈r.body.filter isPos,I64 x:=fun x hx=>HR.out.body.all64 x (List.mem_filter.1 hx).1
    have hx2:∀y∈posW (zp r),I64 y:=fun y hy=>by
     obtain⟨x,hq⟩:=posW_mem hy
     exact HR.out.wt.all64 y (List.of_mem_zip hq).2
    obtain⟨bA',bc',rfl,-⟩:=ob.sl (by omega) hx1
    obtain⟨wA',wc',rfl,-⟩:=ow.sl (by omega) hx2
    have kf:Kept [w.heap.size+1] wr (wr.setRow (w.heap.size+1) #[.bool false,.slice none 0 0,.bool true,.int .i64 z,.slice bA' lb bc',.slice wA' lw wc']):=(Kept.refl _ _).row (.inl (by simp)) _;have fz:Blk (wr.setRow (w.heap.size+1) #[.bool false,.slice none 0 0,.bool true,.int .i64 z,.slice bA' lb bc',.slice wA' lw wc']) (w.heap.size+1) 42 #[.bool false,.slice none 0 0,.bool true,.int .i64 z,.slice bA' lb bc',.slice wA' lw wc']:=rZ.row _;have fb:Below w.heap.size w (wr.setRow (w.heap.size+1) #[.bool false,.slice none 0 0,.bool true,.int .i64 z,.slice bA' lb bc',.slice wA' lw wc']):=Kept.below hB.out kf (by omega) (fun q hq=>by simp at hq;omega)
    obtain⟨_,_,he1,fo⟩:=(ob.keptS kf (fun q hq hm=>by have:=(ob.2.lt q hq).1;have:=HSZ.out;simp at hm;omega)).sl (by omega) hx1
    cases he1
    obtain⟨_,_,he2,fw⟩:=(ow.keptS kf (fun q hq hm=>by have:=(ow.2.lt q hq).1;have:=HSZ.out;simp at hm;omega)).sl (by omega) hx2
    cases he2
    obtain⟨BO,OB,OW,HNE,HKP,RR,RZ,HZ,HKL,HZL,HPR,FZ⟩:=Zq12 bo ob ow hne hkp rR rZ hz hkl hzl hpr fz;clear bo ob ow hne hkp rR rZ hz hkl hzl hpr fz
    obtain⟨FB,KF,FO,FW,HX1,HX2⟩:=Zq6 fb kf fo fw hx1 hx2;clear fb kf fo fw hx1 hx2
    go_wp2_with (first
     | (refine wpList_load_row (by rfl) 42 _ (by rfl) (w.heap.size+1+1) (by rfl) 42 #[.bool false,.slice none 0 0,.bool true,.int .i64 z,.slice bA' lb bc',.slice wA' lw wc'] (0,0) _ BO.out Tryz.underlying42 rfl info_rule ?_)
     | (refine wpList_store_row (by rfl) 42 _ _ (by rfl) (w.heap.size+1) #[.bool false,.slice none 0 0,.bool true,.int .i64 z,.slice bA' lb bc',.slice wA' lw wc'] (by rfl) (by rfl) 42 _ RZ.out info_rule (by rfl) (by simp[Value.oneCell']) ?_))
    refine bodyPost_ret (results_row_tmp rfl _ _ (w.heap.size+1) 42 #[.bool false,.slice none 0 0,.bool true,.int .i64 z,.slice bA' lb bc',.slice wA' lw wc'] _ (.bool true) rfl rfl FZ.out Tryz.underlying42 rfl info_rule) rfl ?_;rw[HPR.out]
    exact⟨bA',lb,bc',wA',lw,wc',rfl,⟨SlIs.nil _ _,show I64 z from⟨by omega,by omega⟩,FO.out,FW.out⟩,(OB.out.fresh).mono (by have:=HSZ.out;omega),(OW.out.fresh).mono (by have:=HSZ.out;omega),FB.out⟩
def PosPost (r:GRule)(ms:LI)(w:World)(e:Ending)(w':World):Prop:=
 (dropB r ms=true∧e=.returned (.tuple #[ruleV zeroRule (.slice none 0 0) (.slice none 0 0) (.slice none 0 0),.bool false])∧Below w.heap.size w w') ∨
 (dropB r ms=false∧∃(bA':OA) (bl' bc':Nat) (wA':OA) (wl' wc':Nat),e=.returned (.tuple #[ruleV (posRule r ms) (.slice none 0 0) (.slice bA' bl' bc') (.slice wA' wl' wc'),.bool true]) ∧
    RuleIn w' (posRule r ms) none 0 0 bA' bl' bc' wA' wl' wc'∧Frs w.heap.size bA' bl'∧Frs w.heap.size wA' wl'∧Below w.heap.size w w')
theorem posPlain_any (r:GRule)(hA:OA)(hl hc:Nat)(bA:OA)(bl bc:Nat)(wA:OA)(wl wc:Nat)(a:Nat)(ms:LI)(n:Int)(w:World)(hr:RuleIn w r hA hl hc bA bl bc wA wl wc)(hm:MemIn w a ms)(hi:RuleIs r n)(hs:r.sum=false):
  Calls Tryz.prog 116 #[.agg #[.bool r.choice,.slice hA hl hc,.bool r.sum,.int .i64 r.bound,.slice bA bl bc,.slice wA wl wc],.func (.func 117) #[] #[.pointer (some ⟨a,0,none⟩)]] w (PosPost r ms w):=by
 have hbc:=hr.body.cap;have hbm:=hr.body.max;have hbs:=hr.body.small;have hpr:posRule r ms=⟨false,[],false,r.bound,r.body.filter isPos,[]⟩:=by unfold posRule;rw[hs];rfl
 have hdr:dropB r ms=r.body.any (badL ms):=by unfold dropB;rw[hs];rfl
 have hrb:=hr.bound
 obtain⟨HR,HM,HI,HPR,HDR,HRB⟩:=Zq6 hr hm hi hpr hdr hrb;clear hr hm hi hpr hdr hrb
 rw[hs];have HS:=Zq1 hs;clear hs;go_enter Tryz.func116,Tryz.ntmps116;go_wp2_with fail
 have hW:Blk (((w.alloc (.cells #[.bool r.choice,.slice hA hl hc,.bool false,.int .i64 r.bound,.slice bA bl bc,.slice wA wl wc] 42)).alloc (.cells #[.bool false,.slice none 0 0,.bool false,.int .i64 0,.slice none 0 0,.slice none 0 0] 42)).alloc (.cells #[.bool false,.slice none 0 0,.bool false,.int .i64 r.bound,.slice none 0 0,.slice none 0 0] 42)) w.heap.size 42 #[.bool r.choice,.slice hA hl hc,.bool false,.int .i64 r.bound,.slice bA bl bc,.slice wA wl wc]∧Blk (((w.alloc (.cells #[.bool r.choice,.slice hA hl hc,.bool false,.int .i64 r.bound,.slice bA bl bc,.slice wA wl wc] 42)).alloc (.cells #[.bool false,.slice none 0 0,.bool false,.int .i64 0,.slice none 0 0,.slice none 0 0] 42)).alloc (.cells #[.bool false,.slice none 0 0,.bool false,.int .i64 r.bound,.slice none 0 0,.slice none 0 0] 42)) (w.heap.size+1) 42 #[.bool false,.slice none 0 0,.bool false,.int .i64 0,.slice none 0 0,.slice none 0 0]∧Blk (((w.alloc (.cells #[.bool r.choice,.slice hA hl hc,.bool false,.int .i64 r.bound,.slice bA bl bc,.slice wA wl wc] 42)).alloc (.cells #[.bool false,.slice none 0 0,.bool false,.int .i64 0,.slice none 0 0,.slice none 0 0] 42)).alloc (.cells #[.bool false,.slice none 0 0,.bool false,.int .i64 r.bound,.slice none 0 0,.slice none 0 0] 42)) (w.heap.size+1+1) 42 #[.bool false,.slice none 0 0,.bool false,.int .i64 r.bound,.slice none 0 0,.slice none 0 0]∧Below w.heap.size w (((w.alloc (.cells #[.bool r.choice,.slice hA hl hc,.bool false,.int .i64 r.bound,.slice bA bl bc,.slice wA wl wc] 42)).alloc (.cells #[.bool false,.slice none 0 0,.bool false,.int .i64 0,.slice none 0 0,.slice none 0 0] 42)).alloc (.cells #[.bool false,.slice none 0 0,.bool false,.int .i64 r.bound,.slice none 0 0,.slice none 0 0] 42))∧(((w.alloc (.cells #[.bool r.choice,.slice hA hl hc,.bool false,.int .i64 r.bound,.slice bA bl bc,.slice wA wl wc] 42)).alloc (.cells #[.bool false,.slice none 0 0,.bool false,.int .i64 0,.slice none 0 0,.slice none 0 0] 42)).alloc (.cells #[.bool false,.slice none 0 0,.bool false,.int .i64 r.bound,.slice none 0 0,.slice none 0 0] 42)).heap.size=w.heap.size+1+1+1:=
  ⟨((blk_new rfl _ _).alloc _).alloc _,(blk_new (by simp) _ _).alloc _,blk_new (by simp) _ _,bel_trans (bel_trans (bel_alloc _ _) (bel_alloc _ _)) (bel_alloc _ _),by simp⟩
 generalize ((w.alloc (.cells #[.bool r.choice,.slice hA hl hc,.bool false,.int .i64 r.bound,.slice bA bl bc,.slice wA wl wc] 42)).alloc (.cells #[.bool false,.slice none 0 0,.bool false,.int .i64 0,.slice none 0 0,.slice none 0 0] 42)).alloc (.cells #[.bool false,.slice none 0 0,.bool false,.int .i64 r.bound,.slice none 0 0,.slice none 0 0] 42)=W0 at *
 obtain⟨bR,bZ,bO,bW,hsz⟩:=hW
 obtain⟨BR,BZ,BO,BW,HSZ⟩:=Zq5 bR bZ bO bW hsz;clear bR bZ bO bW hsz
 go_loopw [17] (fun t wr=>∃(k:Nat) (bv:Value) (lb:Nat),k≤bl∧t=.int .i64 (k:Int)∧Blk wr (w.heap.size+1+1) 42 #[.bool false,.slice none 0 0,.bool false,.int .i64 r.bound,bv,.slice none 0 0]∧OwnI wr W0.heap.size bv lb ((r.body.take k).filter isPos) ∧
   (r.body.take k).any (badL ms)=false∧Kept [(w.heap.size+1+1)] W0 wr) (fun t _=>bl-(intOf t).toNat)
 case atStart=>exact⟨0,_,0,Nat.zero_le _,rfl,BO.out,OwnI.nil _ _,rfl,Kept.refl _ _⟩
 case round=>
  obtain⟨k,bv,lb,hk,rfl,bo,ob,hgd,hkp⟩:=hrel
  have hB:=Zq1 (Kept.below BW.out hkp (by rw[HSZ.out];omega) (fun q hq=>by simp at hq;omega));have rR:=hkp.blk BR.out (by simp <;> omega);have rZ:=hkp.blk BZ.out (by simp <;> omega);have hz0:=HSZ.out;have hz1:=hkp.size
  have hlb:lb≤k:=by
   rw[ob.len];have h1:=List.length_filter_le isPos (r.body.take k);have h2:=List.length_take_le k r.body;omega
  have hbl:w.heap.size+1+1<wr.heap.size:=(by omega);clear hz0;have r2:wr.cell? ⟨w.heap.size,2,none⟩=some (.bool false):=rR.cell 2
  by_cases hlt:k<bl
  ·obtain⟨x,hx,-⟩:=HR.out.body.drop hlt
   obtain⟨xb,xo,rfl,lx,cx,_⟩:=HR.out.body.int hx
   replace cx:=(hB.out.cell (World.block_lt_of_cell? _ _ cx)).trans cx;have hxl:=HI.out.ok.lit x (List.mem_of_getElem? hx);have hxu:=(HR.out.body.all64 x (List.mem_of_getElem? hx)).2;have e1:=filt_take hx;have e4:=any_take (p:=badL ms) hx;rw[hgd,Bool.false_or]at e4;have o4:wr.cell? ⟨w.heap.size+1+1,4,none⟩=some bv:=bo.cell 4;have k0:(0:Int)≤(k:Int):=(by omega);have k1:(k:Int)<(bl:Int):=(by omega)
   by_cases hp:0<x
   ·have hip:isPos x=true:=decide_eq_true hp;rw[hip,if_pos rfl]at e1;have e5:badL ms x=false:=(by unfold badL;rw[hip];rfl);rw[e5]at e4
    obtain⟨v1,w3,hrun,own1,hg1,hat1⟩:=app1 ob x (by omega) (by omega) 23
    obtain⟨g1,cap1,rfl,hgb1,hgl1⟩:=World.ownsRow.form own1.2 (by omega)
    have hro:some (w.heap.size+1+1)≠bv.ownBlock:=fun e=>by have:=(ob.2.lt _ e.symm).1;have:=HSZ.out;omega
    have c4:=(hg1.cell_far ⟨w.heap.size+1+1,4,none⟩ hbl hro).trans o4;have f4:=(hg1.frozen_far ⟨w.heap.size+1+1,4,none⟩ hbl hro).trans (bo.frozen 4);have k1':Kept [w.heap.size+1+1] w3 (w3.setCell ⟨w.heap.size+1+1,4,none⟩ (.slice (some ⟨g1,0,none⟩) (lb+1) cap1)):=(Kept.refl _ _).set (.inl (by simp)) _;have bo':Blk (w3.setCell ⟨w.heap.size+1+1,4,none⟩ (.slice (some ⟨g1,0,none⟩) (lb+1) cap1)) (w.heap.size+1+1) 42 #[.bool false,.slice none 0 0,.bool false,.int .i64 r.bound,.slice (some ⟨g1,0,none⟩) (lb+1) cap1,.slice none 0 0]:=(bo.grown hg1 hro).set_ 4 _;have ob':=own1.keptS k1' (fun q hq hm=>by have:=(own1.2.lt q hq).1;have:=HSZ.out;simp at hm;omega);have kp':=(hkp.grown hg1 (fun q hq=>.inr (ob.2.lt q hq).1)).set (p:=⟨w.heap.size+1+1,4,none⟩) (.inl (by simp)) (.slice (some ⟨g1,0,none⟩) (lb+1) cap1);have c2:=(hg1.cell_far ⟨w.heap.size,2,none⟩ (show w.heap.size<wr.heap.size by omega) (fun e=>by have h5:W0.heap.size≤w.heap.size:=(ob.2.lt _ e.symm).1;have:=HSZ.out;omega)).trans r2
    obtain⟨E1,E4,E5,BO,OB,HKP,RR,RZ,HX,HRUN,OWN1,HG1⟩:=Zq12 e1 e4 e5 bo ob hkp rR rZ hx hrun own1 hg1;clear e1 e4 e5 bo ob hkp rR rZ hx hrun own1 hg1
    obtain⟨HAT1,BO',OB',KP',HRO,HGD⟩:=Zq6 hat1 bo' ob' kp' hro hgd;clear hat1 bo' ob' kp' hro hgd
    clear r2;go_wp2_with (at_builtin;refine wpList_append_run rfl _ _ _ rfl _ _ rfl rfl _ _ HRUN.out ?_);go_roundw;exact⟨k+1,_,lb+1,by omega,by go_num,BO'.out,by rw[E1.out];exact OB'.out,E4.out,KP'.out⟩;simp[intOf];omega
   ·have hip:isPos x=false:=decide_eq_false hp;rw[hip]at e1;simp only[Bool.false_eq_true,if_false]at e1;have hmi:=HM.out.ext hB.out
    by_cases hin : -x∈ms
    ·have hd:decide (-x∈ms)=true:=decide_eq_true hin;have cM:=memberF_any (-x) a ms wr hmi ⟨by omega,by omega⟩;rw[hd]at cM
     have hdd:dropB r ms=true:=by
      rw[HDR.out,List.any_eq_true]
      exact⟨x,List.mem_of_getElem? hx,by unfold badL;rw[hip,hd];rfl⟩
     have fz:=rZ.row #[.bool false,.slice none 0 0,.bool false,.int .i64 0,.slice none 0 0,.slice none 0 0];have fb:Below w.heap.size w (wr.setRow (w.heap.size+1) #[.bool false,.slice none 0 0,.bool false,.int .i64 0,.slice none 0 0,.slice none 0 0]):=Kept.below hB.out ((Kept.refl [w.heap.size+1] wr).row (.inl (by simp)) _) (by omega) (fun q hq=>by simp at hq;omega)
     obtain⟨E1,E4,BO,OB,HKP,RR,RZ,HX,HMI,CM,HD,HIN⟩:=Zq12 e1 e4 bo ob hkp rR rZ hx hmi cM hd hin;clear e1 e4 bo ob hkp rR rZ hx hmi cM hd hin
     obtain⟨HDD,FZ,FB,HGD⟩:=Zq4 hdd fz fb hgd;clear hdd fz fb hgd
     go_wp2_with fail;go_fit CM.out;rintro e w' ⟨rfl,rfl⟩;go_wp2_with (refine wpList_store_row (by rfl) 42 _ _ (by rfl) (w.heap.size+1) #[.bool false,.slice none 0 0,.bool false,.int .i64 0,.slice none 0 0,.slice none 0 0] (by rfl) (by rfl) 42 _ RZ.out info_rule (by rfl) (by simp[Value.oneCell']) ?_);refine bodyPost_ret (results_row_tmp rfl _ _ (w.heap.size+1) 42 #[.bool false,.slice none 0 0,.bool false,.int .i64 0,.slice none 0 0,.slice none 0 0] _ (.bool false) rfl rfl FZ.out Tryz.underlying42 rfl info_rule) rfl ?_;exact .inl ⟨HDD.out,rfl,FB.out⟩
    ·have hd:decide (-x∈ms)=false:=decide_eq_false hin;have cM:=memberF_any (-x) a ms wr hmi ⟨by omega,by omega⟩;rw[hd]at cM;have e5:badL ms x=false:=(by unfold badL;rw[hd];simp);rw[e5]at e4
     obtain⟨E1,E4,E5,BO,OB,HKP,RR,RZ,HX,HMI,CM,HD⟩:=Zq12 e1 e4 e5 bo ob hkp rR rZ hx hmi cM hd;clear e1 e4 e5 bo ob hkp rR rZ hx hmi cM hd
     obtain⟨HIN,HGD⟩:=Zq2 hin hgd;clear hin hgd
     go_wp2_with fail;go_fit CM.out;rintro e w' ⟨rfl,rfl⟩;go_wp2_with fail;go_roundw;exact⟨k+1,_,lb,by omega,by go_num,BO.out,by rw[E1.out];exact OB.out,E4.out,HKP.out⟩;simp[intOf];omega
  ·have hkl:k=bl:=(by omega);rw[hkl,List.take_of_length_le (by have:=HR.out.body.len;omega)]at ob hgd;have hdd:dropB r ms=false:=(by rw[HDR.out];exact hgd);have hx1:∀x∈r.body.filter isPos,I64 x:=fun x hx=>HR.out.body.all64 x (List.mem_filter.1 hx).1
   obtain⟨bA',bc',rfl,-⟩:=ob.sl (by omega) hx1
   have kf:Kept [w.heap.size+1] wr (wr.setRow (w.heap.size+1) #[.bool false,.slice none 0 0,.bool false,.int .i64 r.bound,.slice bA' lb bc',.slice none 0 0]):=(Kept.refl _ _).row (.inl (by simp)) _;have fz:Blk (wr.setRow (w.heap.size+1) #[.bool false,.slice none 0 0,.bool false,.int .i64 r.bound,.slice bA' lb bc',.slice none 0 0]) (w.heap.size+1) 42 #[.bool false,.slice none 0 0,.bool false,.int .i64 r.bound,.slice bA' lb bc',.slice none 0 0]:=rZ.row _;have fb:Below w.heap.size w (wr.setRow (w.heap.size+1) #[.bool false,.slice none 0 0,.bool false,.int .i64 r.bound,.slice bA' lb bc',.slice none 0 0]):=Kept.below hB.out kf (by omega) (fun q hq=>by simp at hq;omega)
   obtain⟨_,_,he1,fo⟩:=(ob.keptS kf (fun q hq hm=>by have:=(ob.2.lt q hq).1;have:=HSZ.out;simp at hm;omega)).sl (by omega) hx1
   cases he1
   obtain⟨BO,OB,HKP,RR,RZ,HKL,FZ,FB,KF,FO,HX1,HDD⟩:=Zq12 bo ob hkp rR rZ hkl fz fb kf fo hx1 hdd;clear bo ob hkp rR rZ hkl fz fb kf fo hx1 hdd
   have HGD:=Zq1 hgd;clear hgd
   go_wp2_with (first
    | (refine wpList_load_row (by rfl) 42 _ (by rfl) (w.heap.size+1+1) (by rfl) 42 #[.bool false,.slice none 0 0,.bool false,.int .i64 r.bound,.slice bA' lb bc',.slice none 0 0] (0,0) _ BO.out Tryz.underlying42 rfl info_rule ?_)
    | (refine wpList_store_row (by rfl) 42 _ _ (by rfl) (w.heap.size+1) #[.bool false,.slice none 0 0,.bool false,.int .i64 r.bound,.slice bA' lb bc',.slice none 0 0] (by rfl) (by rfl) 42 _ RZ.out info_rule (by rfl) (by simp[Value.oneCell']) ?_))
   refine bodyPost_ret (results_row_tmp rfl _ _ (w.heap.size+1) 42 #[.bool false,.slice none 0 0,.bool false,.int .i64 r.bound,.slice bA' lb bc',.slice none 0 0] _ (.bool true) rfl rfl FZ.out Tryz.underlying42 rfl info_rule) rfl ?_;refine .inr ⟨HDD.out,?_⟩;rw[HPR.out]
   exact⟨bA',lb,bc',none,0,0,rfl,⟨SlIs.nil _ _,HRB.out,FO.out,SlIs.nil _ _⟩,(OB.out.fresh).mono (by have:=HSZ.out;omega),Frs.nil _ _,FB.out⟩
theorem dropB_sum {r:GRule}{ms:LI}(hs:r.sum=true):dropB r ms=false:=by unfold dropB;rw[hs];rfl
theorem positive_any (r:GRule)(hA:OA)(hl hc:Nat)(bA:OA)(bl bc:Nat)(wA:OA)(wl wc:Nat)(a:Nat)(ms:LI)(n:Int)(w:World)(hr:RuleIn w r hA hl hc bA bl bc wA wl wc)(hm:MemIn w a ms)(hi:RuleIs r n):
  Calls Tryz.prog 116 #[.agg #[.bool r.choice,.slice hA hl hc,.bool r.sum,.int .i64 r.bound,.slice bA bl bc,.slice wA wl wc],.func (.func 117) #[] #[.pointer (some ⟨a,0,none⟩)]] w (PosPost r ms w):=by
 by_cases hs:r.sum=true
 ·exact(posSum_any r _ _ _ _ _ _ _ _ _ a ms n w hr hm hi hs).mono fun e w' h=>.inr ⟨dropB_sum hs,h⟩
 ·exact posPlain_any r _ _ _ _ _ _ _ _ _ a ms n w hr hm hi (by simpa using hs)

/- Rd5 -/
import Derived.Test.YthdjkenhkedjjaaGreatRd4
import Derived.BigRegion
set_option maxRecDepth 100000
set_option maxHeartbeats 4000000
namespace Go.Proofs.YthdjkenhkedjjaaGreat
open Go.RowKit
def needI (rs:LG)(i:Nat):Nat→Int:=fun j=>if j<i then(match rs[j]? with | some r=>boundOf r | none=>0)else 0
theorem needI_zero (rs:LG):needI rs 0=fun _=>0:=by funext j;simp[needI]
theorem needI_step {rs:LG}{i:Nat}{r:GRule}(h:rs[i]? = some r):(fun j=>if j=i then boundOf r else needI rs i j)=needI rs (i+1):=by
 funext j
 unfold needI
 by_cases e:j=i
 ·subst e;rw[if_pos rfl,if_pos (by omega),h]
 ·rw[if_neg e]
  by_cases h1:j<i
  ·rw[if_pos h1,if_pos (by omega)]
  ·rw[if_neg h1,if_neg (by omega)]
theorem blk_set2 {w:World}{g:Nat}{t:TypeId}{cs:Array Value}(h:Blk w g t cs)(i:Nat)(u v:Value):Blk ((w.setCell ⟨g,i,none⟩ u).setCell ⟨g,i,none⟩ v) g t (cs.setIfInBounds i v):=by
 have:=(h.set_ i u).set_ i v
 rwa [show (cs.setIfInBounds i u).setIfInBounds i v=cs.setIfInBounds i v from by simp]at this
structure Ini (b rl N:Nat)(W:World):Prop where
 need:Blk W b 3 (fnCells rl (fun _=>0))
 ncell:Blk W (b+1) 23 #[.slice (some ⟨b,0,none⟩) rl rl]
 uses:Blk W (b+1+1) 45 (valCells (N+1) (fun _=>.slice none 0 0))
 out:Blk W (b+1+1+1) 3 (fnCells N (fun _=>0))
 ocell:Blk W (b+1+1+1+1) 23 #[.slice (some ⟨b+1+1+1,0,none⟩) N N]
 now:Blk W (b+1+1+1+1+1) 23 #[.slice none 0 0]
 size:W.heap.size=b+1+1+1+1+1+1
theorem blk_new {w:World}{g:Nat}(hg:w.heap.size=g)(t:TypeId)(cs:Array Value):Blk (w.alloc (.cells cs t)) g t cs:=hg ▸ Blk.new w t cs
theorem ini_new (w1:World)(rl N:Nat):Ini w1.heap.size rl N ((((((w1.alloc (.cells (fnCells rl (fun _=>0)) 3)).alloc (.cells #[.slice (some ⟨w1.heap.size,0,none⟩) rl rl] 23)).alloc (.cells (valCells (N+1) (fun _=>.slice none 0 0)) 45)).alloc (.cells (fnCells N (fun _=>0)) 3)).alloc (.cells #[.slice (some ⟨w1.heap.size+1+1+1,0,none⟩) N N] 23)).alloc (.cells #[.slice none 0 0] 23)):=
 ⟨(((((blk_new rfl _ _).alloc _).alloc _).alloc _).alloc _).alloc _,((((blk_new (by simp) _ _).alloc _).alloc _).alloc _).alloc _,(((blk_new (by simp) _ _).alloc _).alloc _).alloc _,
  ((blk_new (by simp) _ _).alloc _).alloc _,(blk_new (by simp) _ _).alloc _,blk_new (by simp) _ _,by simp⟩
theorem hin_step {rs:LG}{N k:Nat}{f o:Nat→Int}{nw:LI}(h:RInv rs N k f o nw)(hd:defB N rs=true):
  RInv rs N (k+1) (subA rs f nw) (reachL rs (subA rs f nw) ((k:Int)+2) (o,[]) (usedIs rs nw)).1 (reachL rs (subA rs f nw) ((k:Int)+2) (o,[]) (usedIs rs nw)).2:=h.step (defB_ok hd)
theorem rounds_any (rA:OA)(rl rc:Nat)(rs:LG)(N:Nat)(w:World)(h:SlIs ruleR w rA rl rc rs)(hd:defB N rs=true):
  Calls Tryz.prog 73 #[.int .i64 N,.slice rA rl rc] w fun e w'=>∃A l c,e=.returned (.tuple #[.slice A l c,.int .i64 0])∧SlIs intR w' A l c (roundsL rs N)∧Below w.heap.size w w':=by
 have hN:N≤4000:=by
  unfold defB at hd;simp only[Bool.and_eq_true,decide_eq_true_eq]at hd;omega
 have hL:rl≤40000:=by
  have:=h.len
  unfold defB at hd;simp only[Bool.and_eq_true,decide_eq_true_eq]at hd;omega
 have cD:=fun W (hb:Below w.heap.size w W)=>definite_any rA rl rc rs N W (h.ext hb);rw[hd]at cD;have hmk:=make_int N (by omega);have hmk2:=make_int rl (by omega);have hmk3:=make_rows (N+1) (by omega);simp only[Int.natCast_add,Int.natCast_one]at hmk3;have hrc:=h.cap;have hrm:=h.max
 obtain⟨H,HD,CD⟩:=Zq3 h hd cD;clear h hd cD
 go_enter Tryz.func73,Tryz.ntmps73;go_wp2_with fail;go_fit (CD.out _ (bel_alloc _ _));rintro e w1 ⟨rfl,hb1⟩;have HB1:=Zq1 (bel_trans (bel_alloc _ _) hb1);have hbl:w.heap.size<w1.heap.size:=by have:=hb1.size;simp at this;omega
 have hbx:w1.cell? ⟨w.heap.size,0,none⟩=some (.slice rA rl rc):=by rw[bcell hb1 _ _ (by simp)];simp[World.cell?_alloc_new]
 clear hb1;have hal:∀(W:World) (ob:Obj),W.cell? ⟨w.heap.size,0,none⟩=some (.slice rA rl rc)→(W.alloc ob).cell? ⟨w.heap.size,0,none⟩=some (.slice rA rl rc):=fun W ob hh=>((bel_alloc W ob).cell (World.block_lt_of_cell? _ _ hh)).trans hh
 have hbx6:((((((w1.alloc (.cells (fnCells rl (fun _=>0)) 3)).alloc (.cells #[.slice (some ⟨w1.heap.size,0,none⟩) rl rl] 23)).alloc (.cells (valCells (N+1) (fun _=>.slice none 0 0)) 45)).alloc
   (.cells (fnCells N (fun _=>0)) 3)).alloc (.cells #[.slice (some ⟨w1.heap.size+1+1+1,0,none⟩) N N] 23)).alloc (.cells #[.slice none 0 0] 23)).cell? ⟨w.heap.size,0,none⟩=some (.slice rA rl rc):=hal _ _ (hal _ _ (hal _ _ (hal _ _ (hal _ _ (hal _ _ hbx)))))
 clear hal;have hini:=Zq1 (ini_new w1 rl N);have hbel:=Zq1 (bel_trans (bel_trans (bel_trans (bel_trans (bel_trans (bel_trans HB1.out (bel_alloc w1 (.cells (fnCells rl (fun _=>0)) 3))) (bel_alloc _ (.cells #[.slice (some ⟨w1.heap.size,0,none⟩) rl rl] 23))) (bel_alloc _ (.cells (valCells (N+1) (fun _=>.slice none 0 0)) 45))) (bel_alloc _ (.cells (fnCells N (fun _=>0)) 3))) (bel_alloc _ (.cells #[.slice (some ⟨w1.heap.size+1+1+1,0,none⟩) N N] 23))) (bel_alloc _ (.cells #[.slice none 0 0] 23)));go_wp2_with fail;generalize ((((((w1.alloc (.cells (fnCells rl (fun _=>0)) 3)).alloc (.cells #[.slice (some ⟨w1.heap.size,0,none⟩) rl rl] 23)).alloc (.cells (valCells (N+1) (fun _=>.slice none 0 0)) 45)).alloc (.cells (fnCells N (fun _=>0)) 3)).alloc (.cells #[.slice (some ⟨w1.heap.size+1+1+1,0,none⟩) N N] 23)).alloc (.cells #[.slice none 0 0] 23))=W0 at *;go_loopw [42] (fun t wr=>∃(i:Nat) (us:Nat→Value) (ls:Nat→Nat),i≤rl∧t=.int .i64 (i:Int)∧Blk wr w1.heap.size 3 (fnCells rl (needI rs i))∧UsesAt wr (w1.heap.size+6) (w1.heap.size+2) (N+1) (rowsU rs i 0) us ls∧Kept [w1.heap.size,w1.heap.size+2] W0 wr) (fun t _=>rl-(intOf t).toNat)
 case atStart=>exact⟨0,_,_,Nat.zero_le _,rfl,by rw[needI_zero];exact hini.out.need,by rw[rowsU_zero];exact UsesAt.new hini.out.uses,Kept.refl _ _⟩
 case round=>
  obtain⟨i,us,ls,hi,rfl,hnb,hus,hkp⟩:=hrel
  obtain⟨wo,rfl⟩:∃wo:World,wo=wr:=⟨_,rfl⟩
  have HBW:=Zq1 (Kept.below hbel.out hkp hbel.out.size (fun k hk=>by simp at hk;omega));have HRW:=Zq1 (H.out.ext HBW.out);have h6:=hkp.cell (a:=⟨w1.heap.size+1,0,none⟩) (v:=.slice (some ⟨w1.heap.size,0,none⟩) rl rl) (by rw[hini.out.ncell.cell];rfl) (by simp);have hbr:=hkp.cell hbx6 (by simp;omega)
  by_cases hlt:i<rl
  ·obtain⟨r,hri,-⟩:=H.out.drop hlt
   obtain⟨b,off,hA,hl,hc,bA,bl,bc,wA,wl,wc,rfl,hbl2,c0,c1,c2,c3,c4,c5,g1,g2,g3,g4⟩:=H.out.rule hri
   replace c0:=(HBW.out.cell (World.block_lt_of_cell? _ _ c0)).trans c0;replace c1:=(HBW.out.cell (World.block_lt_of_cell? _ _ c1)).trans c1;replace c2:=(HBW.out.cell (World.block_lt_of_cell? _ _ c2)).trans c2;replace c3:=(HBW.out.cell (World.block_lt_of_cell? _ _ c3)).trans c3;replace c4:=(HBW.out.cell (World.block_lt_of_cell? _ _ c4)).trans c4;replace c5:=(HBW.out.cell (World.block_lt_of_cell? _ _ c5)).trans c5;have hcn:=hnb.cell i;rw[fnCells_get _ _ _ hlt]at hcn;have hfn:=hnb.frozen i;have hnl:=hnb.lt;have i0:(0:Int)≤(i:Int):=(by omega);have i1:(i:Int)<(rl:Int):=(by omega);have i2:decide ((i:Int)<(rl:Int))=true:=decide_eq_true i1;have i3:decide (i<rl)=true:=decide_eq_true hlt;have hms:w1.heap.size+1<wo.heap.size:=World.block_lt_of_cell? _ _ h6;have hDI:=defR_is (defB_all HD.out r (List.mem_of_getElem? hri));have hb2:bl=r.body.length:=g3.len;have hbc:=g3.cap;have hbm:=g3.max
   obtain⟨HRI,G1,G2,G3,G4,HNB,HUS,HKP,HDI,HB2⟩:=Zq10 hri g1 g2 g3 g4 hnb hus hkp hDI hb2;clear hri g1 g2 g3 g4 hnb hus hkp hDI hb2
   by_cases hs:r.sum=true
   ·rw[hs]at c2;have HS:=Zq1 hs;clear hs;go_wp2_with fail;have y0:=((blk_set2 HNB.out i (.int .i64 (bl:Int)) (.int .i64 r.bound)).alloc (.cells #[.bool r.choice,.slice hA hl hc,.bool true,.int .i64 r.bound,.slice bA bl bc,.slice wA wl wc] 42));rw[fnCells_set,show (fun j=>if j=i then r.bound else needI rs i j)=needI rs (i+1) from by rw[← needI_step HRI.out];simp[boundOf,HS.out]]at y0;have ky:Kept [w1.heap.size] wo (((wo.setCell ⟨w1.heap.size,i,none⟩ (.int .i64 (bl:Int))).setCell ⟨w1.heap.size,i,none⟩ (.int .i64 r.bound)).alloc (.cells #[.bool r.choice,.slice hA hl hc,.bool true,.int .i64 r.bound,.slice bA bl bc,.slice wA wl wc] 42)):=((((Kept.refl _ wo).set (.inl (by simp)) _).set (.inl (by simp)) _).alloc _);have y1:=HUS.out.keptS ky (by simp) (by simp);have y2:Kept [w1.heap.size,w1.heap.size+2] W0 (((wo.setCell ⟨w1.heap.size,i,none⟩ (.int .i64 (bl:Int))).setCell ⟨w1.heap.size,i,none⟩ (.int .i64 r.bound)).alloc (.cells #[.bool r.choice,.slice hA hl hc,.bool true,.int .i64 r.bound,.slice bA bl bc,.slice wA wl wc] 42)):=((HKP.out.set (.inl (by simp)) _).set (.inl (by simp)) _).alloc _;have y3:Blk (((wo.setCell ⟨w1.heap.size,i,none⟩ (.int .i64 (bl:Int))).setCell ⟨w1.heap.size,i,none⟩ (.int .i64 r.bound)).alloc (.cells #[.bool r.choice,.slice hA hl hc,.bool true,.int .i64 r.bound,.slice bA bl bc,.slice wA wl wc] 42)) wo.heap.size 42 #[.bool r.choice,.slice hA hl hc,.bool true,.int .i64 r.bound,.slice bA bl bc,.slice wA wl wc]:=blk_new (by simp) _ _;generalize ((wo.setCell ⟨w1.heap.size,i,none⟩ (.int .i64 (bl:Int))).setCell ⟨w1.heap.size,i,none⟩ (.int .i64 r.bound)).alloc (.cells #[.bool r.choice,.slice hA hl hc,.bool true,.int .i64 r.bound,.slice bA bl bc,.slice wA wl wc] 42)=W2 at *;clear ky
    obtain⟨Y0,Y1,Y2,Y3⟩:=Zq4 y0 y1 y2 y3;clear y0 y1 y2 y3
    clear c0 c1 c2 c3 c4 c5 hcn hfn h6 hbr
    go_loopw [63] (fun t wq=>∃(k:Nat) (us':Nat→Value) (ls':Nat→Nat),k≤bl∧t=.int .i64 (k:Int)∧Blk wq w1.heap.size 3 (fnCells rl (needI rs (i+1)))∧UsesAt wq (w1.heap.size+6) (w1.heap.size+2) (N+1) (rowsU rs i k) us' ls'∧Kept [w1.heap.size,w1.heap.size+2] W0 wq ∧
      Blk wq wo.heap.size 42 #[.bool r.choice,.slice hA hl hc,.bool true,.int .i64 r.bound,.slice bA bl bc,.slice wA wl wc]∧(∀a,a<N+1→(us' a).ownBlock≠some wo.heap.size)∧wo.heap.size<wq.heap.size) (fun t _=>bl-(intOf t).toNat)
    case atStart=>exact⟨0,us,ls,Nat.zero_le _,rfl,Y0.out,Y1.out,Y2.out,Y3.out,fun a ha e=>by have:=((HUS.out.own a ha).2.lt _ e).2;omega,Y3.out.lt⟩
    case round=>
     obtain⟨k,us',ls',hk,rfl,z0,z1,z2,z3,z4,z5⟩:=hrel
     have HBq:=Zq1 (Kept.below hbel.out z2 hbel.out.size (fun k hk=>by simp at hk;omega))
     by_cases hlt2:k<bl
     ·obtain⟨x,hx,-⟩:=G3.out.drop hlt2
      obtain⟨y,hy,-⟩:=G4.out.drop (k:=k) (by rw[G4.out.len,HDI.out.is.wlen HS.out,← HB2.out];exact hlt2)
      have hwl:k<wl:=(by rw[G4.out.len,HDI.out.is.wlen HS.out,← HB2.out];exact hlt2)
      obtain⟨xb,xoff,rfl,_,cx,_⟩:=(G3.out.ext HBq.out).int hx
      obtain⟨yb,yoff,rfl,_,cy,_⟩:=(G4.out.ext HBq.out).int hy
      have hxp:=HDI.out.pos x (List.mem_of_getElem? hx);have hxn:=litB_bd (ordGo_mem _ _ _ HDI.out.is.body x (List.mem_of_getElem? hx))
      obtain⟨a,rfl⟩:∃a:Nat,x=(a:Int):=⟨x.toNat,by omega⟩
      have ha:a<N+1:=(by omega);have a0:(0:Int)≤(a:Int):=(by omega);have a1:(a:Int)<(N:Int)+1:=(by omega);have k0:(0:Int)≤(k:Int):=(by omega);have k1:(k:Int)<(bl:Int):=(by omega);have k2:(k:Int)<(wl:Int):=(by omega);have cu:wr.cell? ⟨w1.heap.size+1+1,a,none⟩=some (us' a):=z1.cell ha;have fu:wr.frozen? ⟨w1.heap.size+1+1,a,none⟩=false:=z1.blk.frozen a;have r2:wr.cell? ⟨wo.heap.size,2,none⟩=some (.bool true):=(by rw[z3.cell];rfl);have r5:wr.cell? ⟨wo.heap.size,5,none⟩=some (.slice (some ⟨yb,yoff,none⟩) wl wc):=(by rw[z3.cell];rfl);have hz2:=z2.size;have hz9:=HKP.out.size;have hsz:=hini.out.size;have hll:=(z1.own a ha).len;have hll2:=rowsU_len (defB_all HD.out) i k a;have hrl:=H.out.len
      obtain⟨v',w3,hrun,ho3,hg3,hv3⟩:=appP (z1.own a ha) (i:Int) y (by omega) (by omega) 45
      obtain⟨g',cap',rfl,_,_⟩:=World.ownsRow.form ho3.2 (by omega)
      have hrow:some (w1.heap.size+1+1)≠(us' a).ownBlock:=fun e=>by have:=((z1.own a ha).2.lt _ e.symm).1;omega
      have hul:=World.block_lt_of_cell? _ _ cu;have cu3:=(hg3.cell_far ⟨w1.heap.size+1+1,a,none⟩ hul hrow).trans cu;have fu3:=(hg3.frozen_far ⟨w1.heap.size+1+1,a,none⟩ hul hrow).trans fu;have zz:=z1.app (by omega) ha ho3 hg3 hv3;have hst:rowsU rs i (k+1)=updU (rowsU rs i k) a (rowsU rs i k a++[((i:Int),y)]):=rowsU_step (p:=((a:Int),y)) HRI.out (by unfold bp;rw[if_pos HS.out];exact List.getElem?_zip_eq_some.2 ⟨hx,hy⟩) a0;rw[← hst]at zz;have zk:Kept [w1.heap.size,w1.heap.size+2] W0 (w3.setCell ⟨w1.heap.size+1+1,a,none⟩ (.slice (some ⟨g',0,none⟩) (ls' a+1) cap')):=(z2.grown hg3 (fun q hq=>.inr (by have:=((z1.own a ha).2.lt q hq).1;rw[hini.out.size];omega))).set (.inl (by simp)) _;have zn:=(z0.grown hg3 (fun e=>by have:=((z1.own a ha).2.lt _ e.symm).1;omega)).far (p:=⟨w1.heap.size+1+1,a,none⟩) (by simp;omega) (.slice (some ⟨g',0,none⟩) (ls' a+1) cap');have zr:=(z3.grown hg3 (fun e=>z4 a ha e.symm)).far (p:=⟨w1.heap.size+1+1,a,none⟩) (by simp;omega) (.slice (some ⟨g',0,none⟩) (ls' a+1) cap')
      have z6:∀a',a'<N+1→(if a'=a then .slice (some ⟨g',0,none⟩) (ls' a+1) cap' else us' a').ownBlock≠some wo.heap.size:=fun a' ha' e=>by
       by_cases e2:a'=a
       ·rw[if_pos e2]at e;rcases hv3 _ e with h1 | h1
        ·exact z4 a ha h1
        ·omega
       ·rw[if_neg e2]at e;exact z4 a' ha' e
      have z7:wo.heap.size<(w3.setCell ⟨w1.heap.size+1+1,a,none⟩ (.slice (some ⟨g',0,none⟩) (ls' a+1) cap')).heap.size:=(by have:=hg3.size;simp[World.setCell];omega)
      obtain⟨ZZ,ZK,ZN,ZR,HROW,HST,Z4,Z6,Z7⟩:=Zq9 zz zk zn zr hrow hst z4 z6 z7;clear zz zk zn zr hrow hst z4 z6 z7
      clear hul;generalize hua:us' a=ua at *;have HRUN:=Zq1 hrun
      obtain⟨Z0,Z1,Z2,Z3,HX,HY,HXP,HXN,HO3,HG3,HV3,HUA⟩:=Zq12 z0 z1 z2 z3 hx hy hxp hxn ho3 hg3 hv3 hua;clear z0 z1 z2 z3 hx hy hxp hxn ho3 hg3 hv3 hua
      clear hrun hll hll2 hrl;go_wp2_with (at_builtin;refine wpList_append_run rfl (.tmp 80) (.tmp 84) _ rfl _ _ rfl rfl _ _ HRUN.out ?_);go_roundw
      case rel=>
       exact⟨k+1,_,_,by omega,by go_num,ZN.out,ZZ.out,ZK.out,ZR.out,Z6.out,Z7.out⟩
      case measure=>simp[intOf];omega
     ·have hkb:k=bl:=(by omega);have zu:=z1;rw[hkb,show bl=(bp r).length from by rw[bp_len HDI.out.is.wlen];exact HB2.out,rowsU_next HRI.out]at zu
      obtain⟨Z0,Z1,Z2,Z3,Z4,ZU,HKB⟩:=Zq7 z0 z1 z2 z3 z4 zu hkb;clear z0 z1 z2 z3 z4 zu hkb
      go_wp2_with fail;go_roundw;exact⟨i+1,_,_,by omega,by go_num,Z0.out,ZU.out,Z2.out⟩;simp[intOf];omega
   ·have hsf:r.sum=false:=(by simpa using hs);clear hs;rw[hsf]at c2;have HSF:=Zq1 hsf;clear hsf;go_wp2_with fail;have y0:=((HNB.out.set_ i (.int .i64 (bl:Int))).alloc (.cells #[.bool r.choice,.slice hA hl hc,.bool false,.int .i64 r.bound,.slice bA bl bc,.slice wA wl wc] 42));rw[fnCells_set,show (fun j=>if j=i then (bl:Int)else needI rs i j)=needI rs (i+1) from by rw[← needI_step HRI.out];simp[boundOf,HSF.out,HB2.out]]at y0;have ky:Kept [w1.heap.size] wo ((wo.setCell ⟨w1.heap.size,i,none⟩ (.int .i64 (bl:Int))).alloc (.cells #[.bool r.choice,.slice hA hl hc,.bool false,.int .i64 r.bound,.slice bA bl bc,.slice wA wl wc] 42)):=(((Kept.refl _ wo).set (.inl (by simp)) _).alloc _);have y1:=HUS.out.keptS ky (by simp) (by simp);have y2:Kept [w1.heap.size,w1.heap.size+2] W0 ((wo.setCell ⟨w1.heap.size,i,none⟩ (.int .i64 (bl:Int))).alloc (.cells #[.bool r.choice,.slice hA hl hc,.bool false,.int .i64 r.bound,.slice bA bl bc,.slice wA wl wc] 42)):=(HKP.out.set (.inl (by simp)) _).alloc _;have y3:Blk ((wo.setCell ⟨w1.heap.size,i,none⟩ (.int .i64 (bl:Int))).alloc (.cells #[.bool r.choice,.slice hA hl hc,.bool false,.int .i64 r.bound,.slice bA bl bc,.slice wA wl wc] 42)) wo.heap.size 42 #[.bool r.choice,.slice hA hl hc,.bool false,.int .i64 r.bound,.slice bA bl bc,.slice wA wl wc]:=blk_new (by simp) _ _;generalize (wo.setCell ⟨w1.heap.size,i,none⟩ (.int .i64 (bl:Int))).alloc (.cells #[.bool r.choice,.slice hA hl hc,.bool false,.int .i64 r.bound,.slice bA bl bc,.slice wA wl wc] 42)=W2 at *;clear ky
    obtain⟨Y0,Y1,Y2,Y3⟩:=Zq4 y0 y1 y2 y3;clear y0 y1 y2 y3
    clear c0 c1 c2 c3 c4 c5 hcn hfn h6 hbr
    go_loopw [63] (fun t wq=>∃(k:Nat) (us':Nat→Value) (ls':Nat→Nat),k≤bl∧t=.int .i64 (k:Int)∧Blk wq w1.heap.size 3 (fnCells rl (needI rs (i+1)))∧UsesAt wq (w1.heap.size+6) (w1.heap.size+2) (N+1) (rowsU rs i k) us' ls'∧Kept [w1.heap.size,w1.heap.size+2] W0 wq ∧
      Blk wq wo.heap.size 42 #[.bool r.choice,.slice hA hl hc,.bool false,.int .i64 r.bound,.slice bA bl bc,.slice wA wl wc]∧(∀a,a<N+1→(us' a).ownBlock≠some wo.heap.size)∧wo.heap.size<wq.heap.size) (fun t _=>bl-(intOf t).toNat)
    case atStart=>exact⟨0,us,ls,Nat.zero_le _,rfl,Y0.out,Y1.out,Y2.out,Y3.out,fun a ha e=>by have:=((HUS.out.own a ha).2.lt _ e).2;omega,Y3.out.lt⟩
    case round=>
     obtain⟨k,us',ls',hk,rfl,z0,z1,z2,z3,z4,z5⟩:=hrel
     have HBq:=Zq1 (Kept.below hbel.out z2 hbel.out.size (fun k hk=>by simp at hk;omega))
     by_cases hlt2:k<bl
     ·obtain⟨x,hx,-⟩:=G3.out.drop hlt2
      obtain⟨xb,xoff,rfl,_,cx,_⟩:=(G3.out.ext HBq.out).int hx
      have hxp:=HDI.out.pos x (List.mem_of_getElem? hx);have hxn:=litB_bd (ordGo_mem _ _ _ HDI.out.is.body x (List.mem_of_getElem? hx))
      obtain⟨a,rfl⟩:∃a:Nat,x=(a:Int):=⟨x.toNat,by omega⟩
      have ha:a<N+1:=(by omega);have a0:(0:Int)≤(a:Int):=(by omega);have a1:(a:Int)<(N:Int)+1:=(by omega);have k0:(0:Int)≤(k:Int):=(by omega);have k1:(k:Int)<(bl:Int):=(by omega);have cu:wr.cell? ⟨w1.heap.size+1+1,a,none⟩=some (us' a):=z1.cell ha;have fu:wr.frozen? ⟨w1.heap.size+1+1,a,none⟩=false:=z1.blk.frozen a;have r2:wr.cell? ⟨wo.heap.size,2,none⟩=some (.bool false):=(by rw[z3.cell];rfl);have hz2:=z2.size;have hz9:=HKP.out.size;have hsz:=hini.out.size;have hll:=(z1.own a ha).len;have hll2:=rowsU_len (defB_all HD.out) i k a;have hrl:=H.out.len
      obtain⟨v',w3,hrun,ho3,hg3,hv3⟩:=appP (z1.own a ha) (i:Int) 1 (by omega) (by omega) 45
      obtain⟨g',cap',rfl,_,_⟩:=World.ownsRow.form ho3.2 (by omega)
      have hrow:some (w1.heap.size+1+1)≠(us' a).ownBlock:=fun e=>by have:=((z1.own a ha).2.lt _ e.symm).1;omega
      have hul:=World.block_lt_of_cell? _ _ cu;have cu3:=(hg3.cell_far ⟨w1.heap.size+1+1,a,none⟩ hul hrow).trans cu;have fu3:=(hg3.frozen_far ⟨w1.heap.size+1+1,a,none⟩ hul hrow).trans fu;have zz:=z1.app (by omega) ha ho3 hg3 hv3;have hst:rowsU rs i (k+1)=updU (rowsU rs i k) a (rowsU rs i k a++[((i:Int),1)]):=rowsU_step (p:=((a:Int),1)) HRI.out (by unfold bp;rw[if_neg (by rw[HSF.out];decide),List.getElem?_map,hx];rfl) a0;rw[← hst]at zz;have zk:Kept [w1.heap.size,w1.heap.size+2] W0 (w3.setCell ⟨w1.heap.size+1+1,a,none⟩ (.slice (some ⟨g',0,none⟩) (ls' a+1) cap')):=(z2.grown hg3 (fun q hq=>.inr (by have:=((z1.own a ha).2.lt q hq).1;rw[hini.out.size];omega))).set (.inl (by simp)) _;have zn:=(z0.grown hg3 (fun e=>by have:=((z1.own a ha).2.lt _ e.symm).1;omega)).far (p:=⟨w1.heap.size+1+1,a,none⟩) (by simp;omega) (.slice (some ⟨g',0,none⟩) (ls' a+1) cap');have zr:=(z3.grown hg3 (fun e=>z4 a ha e.symm)).far (p:=⟨w1.heap.size+1+1,a,none⟩) (by simp;omega) (.slice (some ⟨g',0,none⟩) (ls' a+1) cap')
      have z6:∀a',a'<N+1→(if a'=a then .slice (some ⟨g',0,none⟩) (ls' a+1) cap' else us' a').ownBlock≠some wo.heap.size:=fun a' ha' e=>by
       by_cases e2:a'=a
       ·rw[if_pos e2]at e;rcases hv3 _ e with h1 | h1
        ·exact z4 a ha h1
        ·omega
       ·rw[if_neg e2]at e;exact z4 a' ha' e
      have z7:wo.heap.size<(w3.setCell ⟨w1.heap.size+1+1,a,none⟩ (.slice (some ⟨g',0,none⟩) (ls' a+1) cap')).heap.size:=(by have:=hg3.size;simp[World.setCell];omega)
      obtain⟨ZZ,ZK,ZN,ZR,HROW,HST,Z4,Z6,Z7⟩:=Zq9 zz zk zn zr hrow hst z4 z6 z7;clear zz zk zn zr hrow hst z4 z6 z7
      clear hul;generalize hua:us' a=ua at *;have HRUN:=Zq1 hrun
      obtain⟨Z0,Z1,Z2,Z3,HX,HXP,HXN,HO3,HG3,HV3,HUA⟩:=Zq11 z0 z1 z2 z3 hx hxp hxn ho3 hg3 hv3 hua;clear z0 z1 z2 z3 hx hxp hxn ho3 hg3 hv3 hua
      clear hrun hll hll2 hrl;go_wp2_with (at_builtin;refine wpList_append_run rfl (.tmp 80) (.tmp 84) _ rfl _ _ rfl rfl _ _ HRUN.out ?_);go_roundw
      case rel=>
       exact⟨k+1,_,_,by omega,by go_num,ZN.out,ZZ.out,ZK.out,ZR.out,Z6.out,Z7.out⟩
      case measure=>simp[intOf];omega
     ·have hkb:k=bl:=(by omega);have zu:=z1;rw[hkb,show bl=(bp r).length from by rw[bp_len HDI.out.is.wlen];exact HB2.out,rowsU_next HRI.out]at zu
      obtain⟨Z0,Z1,Z2,Z3,Z4,ZU,HKB⟩:=Zq7 z0 z1 z2 z3 z4 zu hkb;clear z0 z1 z2 z3 z4 zu hkb
      go_wp2_with fail;go_roundw;exact⟨i+1,_,_,by omega,by go_num,Z0.out,ZU.out,Z2.out⟩;simp[intOf];omega
  ·obtain rfl:rl=i:=(by omega)
   have hf0:∀i r,rs[i]? = some r→needI rs rl i=boundOf r:=fun i r hr=>by
    have:=(List.getElem?_eq_some_iff.1 hr).1
    unfold needI;rw[if_pos (by have:=H.out.len;omega),hr]
   have hro:rowsU rs rl 0=fun(a:Nat)=>usesGo (a:Int) 0 rs:=(by rw[H.out.len];exact rowsU_end rs);rw[hro]at hus;have hin:=RInv.init (defB_ok HD.out) hf0;rw[← H.out.len]at hin;clear hf0 hro;generalize needI rs rl=f at *;have b1:rl≤rl:=hi;have hms:w1.heap.size+1+1+1+1+1<wo.heap.size:=(by have:=hini.out.size;have:=hkp.size;omega);have h8:=hkp.cell (a:=⟨w1.heap.size+1+1+1+1,0,none⟩) (v:=.slice (some ⟨w1.heap.size+1+1+1,0,none⟩) N N) (by rw[hini.out.ocell.cell];rfl) (by simp <;> omega);have h9:=hkp.cell (a:=⟨w1.heap.size+1+1+1+1+1,0,none⟩) (v:=.slice none 0 0) (by rw[hini.out.now.cell];rfl) (by simp <;> omega);have f9:wo.frozen? ⟨w1.heap.size+1+1+1+1+1,0,none⟩=false:=(hkp.froz (by have:=hini.out.size;simp;omega) (by simp <;> omega)).trans (hini.out.now.frozen 0);have hout:=hkp.blk hini.out.out (by simp <;> omega)
   obtain⟨HNB,HUS,HKP,HIN,HOUT⟩:=Zq5 hnb hus hkp hin hout;clear hnb hus hkp hin hout
   go_wp2_with fail
   go_loopw [91] (fun t wr=>∃(i:Nat) (v:Value) (l:Nat),i≤rl∧t=.int .i64 (i:Int)∧Blk wr (w1.heap.size+1+1+1) 3 (fnCells N (reachL rs f 1 (fun _=>0,[]) (List.range i)).1)∧wr.cell? ⟨w1.heap.size+1+1+1+1+1,0,none⟩=some v ∧
     wr.frozen? ⟨w1.heap.size+1+1+1+1+1,0,none⟩=false∧OwnI wr wo.heap.size v l (reachL rs f 1 (fun _=>0,[]) (List.range i)).2∧Kept [w1.heap.size+1+1+1,w1.heap.size+1+1+1+1+1] wo wr) (fun t _=>rl-(intOf t).toNat)
   case atStart=>exact⟨0,_,_,Nat.zero_le _,rfl,HOUT.out,h9,f9,OwnI.nil _ _,Kept.refl _ _⟩
   case round=>
    obtain⟨i,v,l,hi2,rfl,ho,hc9,hf9,hv,hk3⟩:=hrel
    have HBr:=Zq1 (Kept.below HBW.out hk3 (by omega) (fun k hk=>by simp at hk;omega));have c6:=hk3.cell h6 (by simp <;> omega);have c3:=hk3.cell hbr (by simp;omega);have c8:=hk3.cell h8 (by simp <;> omega);have nbk:=hk3.blk HNB.out (by simp <;> omega);have hll:=reachL_len rs f 1 (List.range i) (fun _=>0,[]);have hvl:=hv.len;simp only[List.length_nil,List.length_range]at hll;have hl:l<4398046511104:=(by omega);clear hll hvl h9 f9
    obtain⟨H6,HBR,H8⟩:=Zq3 h6 hbr h8;clear h6 hbr h8
    by_cases hlt:i<rl
    ·have i2:decide ((i:Int)<(rl:Int))=true:=decide_eq_true (by omega);have i3:decide (i<rl)=true:=decide_eq_true hlt
     obtain⟨HO,HV,HK3,NBK⟩:=Zq4 ho hv hk3 nbk;clear ho hv hk3 nbk
     go_wp2_with fail;go_fit (reachF_any rA rl rc rs rl N i l w1.heap.size (w1.heap.size+1) w.heap.size (w1.heap.size+1+1+1) (w1.heap.size+1+1+1+1) (w1.heap.size+1+1+1+1+1) f _ 1 v _ w wo _ HK3.out HBr.out H.out rfl c6 NBK.out c3 c8 HO.out hc9 hf9 HV.out (by omega) (by omega) (by omega) (by omega) (by omega) hlt hL hN (defB_ok HD.out) hl);rintro e w' ⟨rfl,v',l',q1,q2,q3,q4,q5⟩;have qq:reachL rs f 1 (fun _=>0,[]) (List.range (i+1))=reachS rs f 1 (reachL rs f 1 (fun _=>0,[]) (List.range i)) i:=(by rw[List.range_succ,reachL_snoc])
     obtain⟨Q1,Q2,Q3,Q4,Q5,QQ⟩:=Zq6 q1 q2 q3 q4 q5 qq;clear q1 q2 q3 q4 q5 qq
     clear hc9 hf9 c6 c3 c8;go_wp2_with fail;go_roundw;exact⟨i+1,v',l',by omega,by go_num,by rw[QQ.out];exact Q1.out,Q2.out,Q3.out,by rw[QQ.out];exact Q4.out,Q5.out⟩;simp[intOf];omega
    ·obtain rfl:rl=i:=(by omega);have b2:rl≤rl:=hi2;have hin:=HIN.out;generalize reachL rs f 1 (fun _=>0,[]) (List.range rl)=s at *
     obtain⟨o,nw⟩:=s
     simp only at ho hv hin;clear c6 c3 c8 nbk;have hnb2:=hk3.blk HNB.out (by simp <;> omega);have hvm:OwnI wr (w1.heap.size+1+1+1+1+1+1) v l nw:=hv.mono (by have:=hini.out.size;have:=HKP.out.size;omega);have hk4:Kept [w1.heap.size,w1.heap.size+1+1+1,w1.heap.size+1+1+1+1+1] wo wr:=hk3.more (by simp <;> omega);clear hv hk3 HIN
     obtain⟨HO,HVM,HK4,HIN,HNB2⟩:=Zq5 ho hvm hk4 hin hnb2;clear ho hvm hk4 hin hnb2
     obtain⟨wa,rfl⟩:∃wa:World,wa=wr:=⟨_,rfl⟩
     have hwo9:w1.heap.size+1+1+1+1+1+1≤wo.heap.size:=(by omega);go_wp2_with fail
     go_loopw [17] (fun t wr=>∃(k:Nat) (f o:Nat→Int) (nw:LI) (v:Value) (l:Nat),k≤N∧t=.int .i64 ((k:Int)+2)∧RInv rs N k f o nw∧Blk wr w1.heap.size 3 (fnCells rl f)∧Blk wr (w1.heap.size+1+1+1) 3 (fnCells N o)∧wr.cell? ⟨w1.heap.size+1+1+1+1+1,0,none⟩=some v ∧
       wr.frozen? ⟨w1.heap.size+1+1+1+1+1,0,none⟩=false∧OwnI wr (w1.heap.size+1+1+1+1+1+1) v l nw∧Kept [w1.heap.size,w1.heap.size+1+1+1,w1.heap.size+1+1+1+1+1] wo wr) (fun t _=>N+3-(intOf t).toNat)
     case atStart=>exact⟨0,f,o,nw,v,l,Nat.zero_le _,rfl,HIN.out,HNB2.out,HO.out,hc9,hf9,HVM.out,HK4.out⟩
     case round=>
      clear hc9 hf9 hl HO HVM HK4 HIN HNB2 HBr b2 hi2 HNB
      obtain⟨k,f,o,nw,v,l,hkN,rfl,hin,hnb,ho,hc9,hf9,hv,hk5⟩:=hrel
      have HBr:=Zq1 (Kept.below HBW.out hk5 (by omega) (fun k hk=>by simp at hk;omega));have hsz5:=hk5.size;have hvl:=hv.len;have hnl:=hin.len;have hlN:l≤N:=(by omega)
      by_cases hl0:0<l
      ·obtain⟨g,cap,rfl,hgb,hgl⟩:=World.ownsRow.form hv.2 hl0
       have hkm:k+1≤N:=hin.more (fun e=>by rw[e]at hvl;simp at hvl;omega);have l1:decide ((0:Int)<(l:Int))=true:=decide_eq_true (by omega);have l2:decide (0<l)=true:=decide_eq_true hl0;clear hvl hnl;have kwa:Kept [w1.heap.size+1+1+1+1+1] wr (wr.setCell ⟨w1.heap.size+1+1+1+1+1,0,none⟩ (.slice none 0 0)):=(Kept.refl _ _).set (.inl (by simp)) _;have a1:=kwa.blk hnb (by simp <;> omega);have a2:=kwa.blk ho (by simp <;> omega);have a3:(wr.setCell ⟨w1.heap.size+1+1+1+1+1,0,none⟩ (.slice none 0 0)).cell? ⟨w1.heap.size+1+1+1+1+1,0,none⟩=some (.slice none 0 0):=World.cell?_setCell_same' wr _ _ (by rw[hc9];rfl);have a3f:(wr.setCell ⟨w1.heap.size+1+1+1+1+1,0,none⟩ (.slice none 0 0)).frozen? ⟨w1.heap.size+1+1+1+1+1,0,none⟩=false:=(by rw[World.frozen?_setCell];exact hf9)
       have a4:=(hv.keptS kwa (fun q hq hm=>by
        have:q=g:=(by simpa[Value.ownBlock]using hq.symm)
        simp at hm;omega)).sl (by omega) (fun x hx=>by have:=hin.mem x hx;constructor <;> omega)
       obtain⟨_,_,he,a4⟩:=a4
       cases he;have a5:Kept [w1.heap.size,w1.heap.size+1+1+1,w1.heap.size+1+1+1+1+1] wo (wr.setCell ⟨w1.heap.size+1+1+1+1+1,0,none⟩ (.slice none 0 0)):=hk5.set (.inl (by simp)) _;have a6:=HUS.out.keptS a5 (by simp <;> omega) (fun q hq=>by simp at hq;omega);have hgs:g<(wr.setCell ⟨w1.heap.size+1+1+1+1+1,0,none⟩ (.slice none 0 0)).heap.size:=(by simp[World.setCell];omega)
       obtain⟨HIN,HNB,HO,HV,HK5,A1,A2,A4,A5,A6,KWA⟩:=Zq11 hin hnb ho hv hk5 a1 a2 a4 a5 a6 kwa;clear hin hnb ho hv hk5 a1 a2 a4 a5 a6 kwa
       go_wp2_with fail;generalize wr.setCell ⟨w1.heap.size+1+1+1+1+1,0,none⟩ (.slice none 0 0)=Wa at *;clear hc9 hf9 HNB HO HV HK5
       obtain⟨A3,A3F⟩:=Zq2 a3 a3f;clear a3 a3f
       have hsa:=A5.out.size;go_loopw [106] (fun t wq=>∃j:Nat,j≤l∧t=.int .i64 (j:Int)∧Blk wq w1.heap.size 3 (fnCells rl (subA rs f (nw.take j)))∧Kept [w1.heap.size] Wa wq) (fun t _=>l-(intOf t).toNat)
       case atStart=>exact⟨0,Nat.zero_le _,rfl,by rw[List.take_zero];exact A1.out,Kept.refl _ _⟩
       case round=>
        obtain⟨j,hj,rfl,b1',kb⟩:=hrel
        have j0:(0:Int)≤(j:Int):=(by omega)
        by_cases hlt5:j<l
        ·have j1:(j:Int)<(l:Int):=(by omega);have j2:decide ((j:Int)<(l:Int))=true:=decide_eq_true j1;have j3:decide (j<l)=true:=decide_eq_true hlt5
         obtain⟨x,hx,-⟩:=A4.out.drop hlt5
         have hxm:=HIN.out.mem x (List.mem_of_getElem? hx)
         obtain⟨a,rfl⟩:∃a:Nat,x=(a:Int):=⟨x.toNat,by omega⟩
         obtain⟨_,_,he,_,cx,_⟩:=A4.out.int hx
         cases he;rw[Nat.zero_add]at cx;replace cx:=kb.cell cx (by simp <;> omega);have ha:a<N+1:=(by omega);have a0:(0:Int)≤(a:Int):=(by omega);have a1':(a:Int)<(N:Int)+1:=(by omega);have cu:=kb.cell (A6.out.cell ha) (by simp <;> omega)
         obtain⟨uA,uc,hue,hrow⟩:=(A6.out.own a ha).sl (by rw[(A6.out.own a ha).len];have:=usesGo_len (n:=(N:Int)) (a:Int) rs 0 (defB_all HD.out);have:=H.out.len;omega) (fun p hp=>by have:=usesGo_bd (defB_all HD.out) (a:Int) p hp;have:=H.out.len;exact⟨⟨by omega,by omega⟩,⟨by omega,by omega⟩⟩)
         rw[hue]at cu;have hla:=hrow.cap;have hlm:=hrow.max;generalize ls a=la at *
         obtain⟨wj,rfl⟩:∃wj:World,wj=wr:=⟨_,rfl⟩
         obtain⟨HX,HXM,HUE,HROW,B1',KB⟩:=Zq6 hx hxm hue hrow b1' kb;clear hx hxm hue hrow b1' kb
         go_wp2_with fail;go_loopw [115] (fun t wz=>∃m:Nat,m≤la∧t=.int .i64 (m:Int)∧Blk wz w1.heap.size 3 (fnCells rl (subU (subA rs f (nw.take j)) ((usesGo a 0 rs).take m)))∧Kept [w1.heap.size] Wa wz) (fun t _=>la-(intOf t).toNat)
         case atStart=>exact⟨0,Nat.zero_le _,rfl,by rw[List.take_zero];exact B1'.out,KB.out⟩
         case round=>
          obtain⟨m,hm,rfl,nb6,kb6⟩:=hrel
          have m0:(0:Int)≤(m:Int):=(by omega)
          by_cases hlt6:m<la
          ·have m1:(m:Int)<(la:Int):=(by omega);have m2:decide ((m:Int)<(la:Int))=true:=decide_eq_true m1;have m3:decide (m<la)=true:=decide_eq_true hlt6
           obtain⟨p,hp,-⟩:=HROW.out.drop hlt6
           obtain⟨pb,po,rfl,hpb,cp1,cp2,_,_⟩:=HROW.out.pair hp
           have hpg:=((A6.out.own a ha).2.lt pb (by rw[HUE.out];rfl)).1;replace cp1:=kb6.cell cp1 (by simp <;> omega);replace cp2:=kb6.cell cp2 (by simp <;> omega);have hpd:=usesGo_bd (defB_all HD.out) (a:Int) p (List.mem_of_getElem? hp);have hrl:=H.out.len;have hst:=subU_take (f:=subA rs f (nw.take j)) hp
           obtain⟨pi,y⟩:=p
           simp only at cp1 cp2 hpd hst
           obtain⟨i,rfl⟩:∃i:Nat,pi=(i:Int):=⟨pi.toNat,by omega⟩
           rw[Int.toNat_natCast]at hst;have hir:i<rl:=(by omega);have cn:=nb6.cell i;rw[fnCells_get _ _ _ hir]at cn;have fn:=nb6.frozen i;have hzb:=mid_bd (defB_all HD.out) (by omega) hN (HIN.out.bd (defB_all HD.out)) HIN.out.len j m (a:Int) i (by omega);have c6:=kb6.cell (A5.out.cell H6.out (by simp <;> omega)) (by simp <;> omega);have hz6:=kb6.size;generalize hF:subU (subA rs f (nw.take j)) ((usesGo a 0 rs).take m)=F at *;generalize hz:F i=z at *;have i0:(0:Int)≤(i:Int):=(by omega);have i1:(i:Int)<(rl:Int):=(by omega);have y0:1≤y:=(by omega);have y1:y≤1048576:=(by omega);have z0 : -1000000000000000000≤z:=(by omega);have z1:z≤1048576:=(by omega);have w0:IntKind.i64.wrap (z-y)=z-y:=IntWalk.i64_in _ (by omega);clear hrl hpd
           obtain⟨HST,NB6,KB6,HF,HZ,HP,HZB⟩:=Zq7 hst nb6 kb6 hF hz hp hzb;clear hst nb6 kb6 hF hz hp hzb
           go_wp2_with fail;have hbx:=bel_alloc wr (.cells #[.int .i64 (i:Int),.int .i64 y] 48);have bb:=Blk.new wr 48 #[.int .i64 (i:Int),.int .i64 y];have x6:=(hbx.cell (World.block_lt_of_cell? _ _ c6)).trans c6;have xn:=(hbx.cell (World.block_lt_of_cell? _ _ cn)).trans cn;have xf:=(hbx.frozen (World.block_lt_of_cell? _ _ cn)).trans fn;have xb0:(wr.alloc (.cells #[.int .i64 (i:Int),.int .i64 y] 48)).cell? ⟨wr.heap.size,0,none⟩=some (.int .i64 (i:Int)):=bb.cell 0;have xb1:(wr.alloc (.cells #[.int .i64 (i:Int),.int .i64 y] 48)).cell? ⟨wr.heap.size,1,none⟩=some (.int .i64 y):=bb.cell 1;have xk:=KB6.out.alloc (.cells #[.int .i64 (i:Int),.int .i64 y] 48);have xb:=NB6.out.alloc (.cells #[.int .i64 (i:Int),.int .i64 y] 48);generalize wr.alloc (.cells #[.int .i64 (i:Int),.int .i64 y] 48)=X at *;clear hbx bb c6 cn fn cp1 cp2 NB6 KB6
           obtain⟨XK,XB⟩:=Zq2 xk xb;clear xk xb
           go_region
           have yb:Blk ((X.setCell ⟨w1.heap.size,i,none⟩ (.int .i64 (z-y))).drew) w1.heap.size 3 (fnCells rl (upd F i (z-y))):=by
            have:=XB.out.set_ i (.int .i64 (z-y))
            rw[fnCells_set]at this;exact this
           have yk:Kept [w1.heap.size] Wa ((X.setCell ⟨w1.heap.size,i,none⟩ (.int .i64 (z-y))).drew):=(XK.out.set (.inl (by simp)) _).drew;rw[← HST.out]at yb
           obtain⟨YB,YK⟩:=Zq2 yb yk;clear yb yk
           generalize (X.setCell ⟨w1.heap.size,i,none⟩ (.int .i64 (z-y))).drew=Y at *;clear x6 xn xf xb0 xb1;go_wp2_with fail;go_roundw;exact⟨m+1,by omega,by go_num,YB.out,YK.out⟩;simp[intOf];omega
          ·have hml:m=la:=(by omega);have hlu:la=(usesGo (a:Int) 0 rs).length:=HROW.out.len;rw[hml,hlu,List.take_length,← subA_take HX.out]at nb6
           obtain⟨NB6,KB6,HML,HLU⟩:=Zq4 nb6 kb6 hml hlu;clear nb6 kb6 hml hlu
           go_wp2_with fail;go_roundw;exact⟨j+1,by omega,by go_num,NB6.out,KB6.out⟩;simp[intOf];omega
        ·have hjl:j=l:=(by omega);have hnl:l=nw.length:=A4.out.len;rw[hjl,hnl,List.take_length]at b1';have hsb:=kb.size;have e6:=A6.out.keptS kb (by simp <;> omega) (fun q hq=>by simp at hq;omega);have e2:=kb.blk A2.out (by simp <;> omega);have e9:=kb.cell A3.out (by simp <;> omega);have e9f:=(kb.froz (World.block_lt_of_cell? _ _ A3.out) (by simp <;> omega)).trans A3F.out;have e5:Kept [w1.heap.size,w1.heap.size+1+1+1,w1.heap.size+1+1+1+1+1] wo wr:=A5.out.trans (kb.more (by simp <;> omega))
         obtain⟨wb,rfl⟩:∃wb:World,wb=wr:=⟨_,rfl⟩
         have hstep:=hin_step HIN.out HD.out
         obtain⟨HJL,HNL,B1',KB,E6,E2,E9,E9F,E5,HSTEP⟩:=Zq10 hjl hnl b1' kb e6 e2 e9 e9f e5 hstep;clear hjl hnl b1' kb e6 e2 e9 e9f e5 hstep
         go_wp2_with fail;generalize hG:subA rs f nw=G at *;have HG:=Zq1 hG;clear hG
         go_loopw [132] (fun t wq=>∃(j:Nat) (v:Value) (l':Nat),j≤l∧t=.int .i64 (j:Int)∧Blk wq (w1.heap.size+1+1+1) 3 (fnCells N (reachL rs G ((k:Int)+2) (o,[]) (usedIs rs (nw.take j))).1)∧wq.cell? ⟨w1.heap.size+1+1+1+1+1,0,none⟩=some v∧wq.frozen? ⟨w1.heap.size+1+1+1+1+1,0,none⟩=false ∧
           OwnI wq wb.heap.size v l' (reachL rs G ((k:Int)+2) (o,[]) (usedIs rs (nw.take j))).2∧Kept [w1.heap.size+1+1+1,w1.heap.size+1+1+1+1+1] wb wq) (fun t _=>l-(intOf t).toNat)
         case atStart=>exact⟨0,_,_,Nat.zero_le _,rfl,E2.out,E9.out,E9F.out,OwnI.nil _ _,Kept.refl _ _⟩
         case round=>
          obtain⟨j,v,l',hj,rfl,ho7,hc7,hf7,hv7,hk7⟩:=hrel
          have j0:(0:Int)≤(j:Int):=(by omega)
          by_cases hlt7:j<l
          ·have j1:(j:Int)<(l:Int):=(by omega);have j2:decide ((j:Int)<(l:Int))=true:=decide_eq_true j1;have j3:decide (j<l)=true:=decide_eq_true hlt7
           obtain⟨x,hx,-⟩:=A4.out.drop hlt7
           have hxm:=HIN.out.mem x (List.mem_of_getElem? hx)
           obtain⟨a,rfl⟩:∃a:Nat,x=(a:Int):=⟨x.toNat,by omega⟩
           obtain⟨_,_,he,_,cx,_⟩:=A4.out.int hx
           cases he;rw[Nat.zero_add]at cx;replace cx:=hk7.cell (KB.out.cell cx (by simp <;> omega)) (by simp <;> omega);have ha:a<N+1:=(by omega);have a0:(0:Int)≤(a:Int):=(by omega);have a1':(a:Int)<(N:Int)+1:=(by omega);have cu:=hk7.cell (E6.out.cell ha) (by simp <;> omega)
           obtain⟨uA,uc,hue,hrow⟩:=(E6.out.own a ha).sl (by rw[(E6.out.own a ha).len];have:=usesGo_len (n:=(N:Int)) (a:Int) rs 0 (defB_all HD.out);have:=H.out.len;omega) (fun p hp=>by have:=usesGo_bd (defB_all HD.out) (a:Int) p hp;have:=H.out.len;exact⟨⟨by omega,by omega⟩,⟨by omega,by omega⟩⟩)
           rw[hue]at cu;have hla:=hrow.cap;have hlm:=hrow.max;generalize ls a=la at *
           obtain⟨wj,rfl⟩:∃wj:World,wj=wr:=⟨_,rfl⟩
           obtain⟨HX,HXM,HUE,HROW,HO7,HV7,HK7,HC7,HF7⟩:=Zq9 hx hxm hue hrow ho7 hv7 hk7 hc7 hf7;clear hx hxm hue hrow ho7 hv7 hk7 hc7 hf7
           go_wp2_with fail
           go_loopw [141] (fun t wz=>∃(m:Nat) (v:Value) (l':Nat),m≤la∧t=.int .i64 (m:Int)∧Blk wz (w1.heap.size+1+1+1) 3 (fnCells N (reachL rs G ((k:Int)+2) (o,[]) (usedIs rs (nw.take j)++((usesGo a 0 rs).take m).map (fun p=>p.1.toNat))).1)∧wz.cell? ⟨w1.heap.size+1+1+1+1+1,0,none⟩=some v∧wz.frozen? ⟨w1.heap.size+1+1+1+1+1,0,none⟩=false ∧
             OwnI wz wb.heap.size v l' (reachL rs G ((k:Int)+2) (o,[]) (usedIs rs (nw.take j)++((usesGo a 0 rs).take m).map (fun p=>p.1.toNat))).2∧Kept [w1.heap.size+1+1+1,w1.heap.size+1+1+1+1+1] wb wz) (fun t _=>la-(intOf t).toNat)
           case atStart=>exact⟨0,v,l',Nat.zero_le _,rfl,by rw[List.take_zero,List.map_nil,List.append_nil];exact HO7.out,HC7.out,HF7.out,by rw[List.take_zero,List.map_nil,List.append_nil];exact HV7.out,HK7.out⟩
           case round=>
            clear HO7 HC7 HF7 HV7 HK7
            obtain⟨m,v,l',hm,rfl,ho8,hc8,hf8,hv8,hk8⟩:=hrel
            have m0:(0:Int)≤(m:Int):=(by omega)
            by_cases hlt8:m<la
            ·have m1:(m:Int)<(la:Int):=(by omega);have m2:decide ((m:Int)<(la:Int))=true:=decide_eq_true m1;have m3:decide (m<la)=true:=decide_eq_true hlt8
             obtain⟨p,hp,-⟩:=HROW.out.drop hlt8
             obtain⟨pb,po,rfl,hpb,cp1,cp2,_,_⟩:=HROW.out.pair hp
             have hpg:=((E6.out.own a ha).2.lt pb (by rw[HUE.out];rfl)).1;replace cp1:=hk8.cell cp1 (by simp <;> omega);replace cp2:=hk8.cell cp2 (by simp <;> omega);have hpd:=usesGo_bd (defB_all HD.out) (a:Int) p (List.mem_of_getElem? hp);have hrl:=H.out.len;have hst:=map_take hp
             obtain⟨pi,y⟩:=p
             simp only at cp1 cp2 hpd hst
             obtain⟨i,rfl⟩:∃i:Nat,pi=(i:Int):=⟨pi.toNat,by omega⟩
             rw[Int.toNat_natCast]at hst;have hir:i<rl:=(by omega);have hnl8:=now_len (defB_all HD.out) (by omega) hN HIN.out.len G o ((k:Int)+2) j m (a:Int);have hl8:l'<4398046511104:=(by rw[hv8.len];exact hnl8)
             have hst2:reachL rs G ((k:Int)+2) (o,[]) (usedIs rs (nw.take j)++((usesGo a 0 rs).take (m+1)).map (fun p=>p.1.toNat))=reachS rs G ((k:Int)+2) (reachL rs G ((k:Int)+2) (o,[]) (usedIs rs (nw.take j)++((usesGo a 0 rs).take m).map (fun p=>p.1.toNat))) i:=by
              rw[hst,← List.append_assoc,reachL_snoc]
             generalize reachL rs G ((k:Int)+2) (o,[]) (usedIs rs (nw.take j)++((usesGo a 0 rs).take m).map (fun p=>p.1.toNat))=S at *;have xk:=hk8.alloc (.cells #[.int .i64 (i:Int),.int .i64 y] 48);have xo:=ho8.alloc (.cells #[.int .i64 (i:Int),.int .i64 y] 48);have xv:=hv8.bel (bel_alloc wr (.cells #[.int .i64 (i:Int),.int .i64 y] 48));have xc:=((bel_alloc wr (.cells #[.int .i64 (i:Int),.int .i64 y] 48)).cell (World.block_lt_of_cell? _ _ hc8)).trans hc8;have xf:=((bel_alloc wr (.cells #[.int .i64 (i:Int),.int .i64 y] 48)).frozen (World.block_lt_of_cell? _ _ hc8)).trans hf8;have bb:=Blk.new wr 48 #[.int .i64 (i:Int),.int .i64 y];have xb0:(wr.alloc (.cells #[.int .i64 (i:Int),.int .i64 y] 48)).cell? ⟨wr.heap.size,0,none⟩=some (.int .i64 (i:Int)):=bb.cell 0;have x6:=xk.cell (E5.out.cell H6.out (by simp <;> omega)) (by simp <;> omega);have x3:=xk.cell (E5.out.cell HBR.out (by simp;omega)) (by simp;omega);have x8:=xk.cell (E5.out.cell H8.out (by simp <;> omega)) (by simp <;> omega);have xn:=xk.blk B1'.out (by simp <;> omega);have xB:=Zq1 (Kept.below (Kept.below HBW.out E5.out (by omega) (fun k hk=>by simp at hk;omega)) xk (by omega) (fun k hk=>by simp at hk;omega));clear hrl hpd hc8 hf8 bb hnl8 hst
             obtain⟨HO8,HV8,HK8,HP,HST2,XK,XO,XV,XN⟩:=Zq9 ho8 hv8 hk8 hp hst2 xk xo xv xn;clear ho8 hv8 hk8 hp hst2 xk xo xv xn
             go_wp2_with fail;generalize wr.alloc (.cells #[.int .i64 (i:Int),.int .i64 y] 48)=X at *;go_fit (reachF_any rA rl rc rs rl N i l' w1.heap.size (w1.heap.size+1) w.heap.size (w1.heap.size+1+1+1) (w1.heap.size+1+1+1+1) (w1.heap.size+1+1+1+1+1) G _ ((k:Int)+2) v _ w wb _ XK.out xB.out H.out rfl x6 XN.out x3 x8 XO.out xc xf XV.out (by omega) (by omega) (by omega) (by omega) (by omega) hir hL hN (defB_ok HD.out) hl8);rintro e w' ⟨rfl,v',l2,q1,q2,q3,q4,q5⟩
             obtain⟨Q1,Q2,Q3,Q4,Q5⟩:=Zq5 q1 q2 q3 q4 q5;clear q1 q2 q3 q4 q5
             clear xc xf x6 x3 x8 cp1 cp2 xb0;go_wp2_with fail;go_roundw;exact⟨m+1,v',l2,by omega,by go_num,by rw[HST2.out];exact Q1.out,Q2.out,Q3.out,by rw[HST2.out];exact Q4.out,Q5.out⟩;simp[intOf];omega
            ·have hml:m=la:=(by omega);have hlu:la=(usesGo (a:Int) 0 rs).length:=HROW.out.len;rw[hml,hlu,List.take_length,← usedIs_take HX.out]at ho8 hv8
             obtain⟨HO8,HV8,HK8,HML,HLU,HC8,HF8⟩:=Zq7 ho8 hv8 hk8 hml hlu hc8 hf8;clear ho8 hv8 hk8 hml hlu hc8 hf8
             go_wp2_with fail;go_roundw;exact⟨j+1,v,l',by omega,by go_num,HO8.out,HC8.out,HF8.out,HV8.out,HK8.out⟩;simp[intOf];omega
          ·have hjl:j=l:=(by omega);have hnl:l=nw.length:=A4.out.len;rw[hjl,hnl,List.take_length]at ho7 hv7;have hsb:=E5.out.size;have k0:(0:Int)≤(k:Int):=(by omega);have k1:(k:Int)≤4000:=(by omega);have e5':Kept [w1.heap.size,w1.heap.size+1+1+1,w1.heap.size+1+1+1+1+1] wo wr:=E5.out.trans (hk7.more (by simp <;> omega));have hb':=hk7.blk B1'.out (by simp <;> omega);have hv':=hv7.mono (base':=(w1.heap.size+1+1+1+1+1+1)) (by omega)
           obtain⟨HJL,HNL,HO7,HV7,HK7,E5',HB',HV',HC7,HF7⟩:=Zq10 hjl hnl ho7 hv7 hk7 e5' hb' hv' hc7 hf7;clear hjl hnl ho7 hv7 hk7 e5' hb' hv' hc7 hf7
           go_wp2_with fail;go_roundw;exact⟨k+1,G,_,_,v,l',by omega,by go_num,HSTEP.out,HB'.out,HO7.out,HC7.out,HF7.out,HV'.out,E5'.out⟩;simp[intOf];omega
      ·obtain⟨A,c,rfl,_⟩:=hv.sl (by omega) (fun x hx=>by have:=hin.mem x hx;constructor <;> omega)
       obtain rfl:l=0:=(by omega);have hnn:nw=[]:=List.eq_nil_of_length_eq_zero hvl.symm;have hres:=hin;rw[hnn]at hres;have hdone:=hres.done;have hsl:=sl_of_blk ho (by omega) (fun i hi=>by rw[hin.out i hi];have:=stage_bd rs N (k+1) i;constructor <;> omega);rw[hdone]at hsl;have c8:=hk5.cell H8.out (by simp <;> omega);clear hvl hnn hres hdone hnl
       obtain⟨HIN,HNB,HO,HV,HK5,HSL⟩:=Zq6 hin hnb ho hv hk5 hsl;clear hin hnb ho hv hk5 hsl
       go_wp2_with fail;go_ret2
       exact⟨_,_,_,rfl,HSL.out,HBr.out⟩

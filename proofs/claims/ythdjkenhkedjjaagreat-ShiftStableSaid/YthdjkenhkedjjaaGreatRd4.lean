/- Rd4 -/
import Derived.Test.YthdjkenhkedjjaaGreatG4
import Derived.Deep.RegionHeldLaw
import Derived.Deep.AppendLies
set_option maxRecDepth 100000
set_option maxHeartbeats 4000000
namespace Go.Proofs.YthdjkenhkedjjaaGreat
open Go.RowKit
theorem reachF_any (rA:OA)(rl rc:Nat)(rs:LG)(m n i l nb n6 r3 ob o8 w9:Nat)(f o:Nat→Int)(k:Int)(v:Value)(nw:LI)(wc w1 w:World)
  (hK:Kept [ob,w9] w1 w) (hB:Below wc.heap.size wc w) (hr:SlIs ruleR wc rA rl rc rs) (hm:rl=m)
  (h6:w.cell? ⟨n6,0,none⟩=some (.slice (some ⟨nb,0,none⟩) m m)) (hn:Blk w nb 3 (fnCells m f))
  (h3:w.cell? ⟨r3,0,none⟩=some (.slice rA rl rc))
  (h8:w.cell? ⟨o8,0,none⟩=some (.slice (some ⟨ob,0,none⟩) n n)) (ho:Blk w ob 3 (fnCells n o))
  (h9:w.cell? ⟨w9,0,none⟩=some v) (f9:w.frozen? ⟨w9,0,none⟩=false) (hv:OwnI w w1.heap.size v l nw)
  (d1:w9≠ob) (d2:r3≠ob) (lc:wc.heap.size≤ob) (l9:w9<w1.heap.size) (lo:ob<w1.heap.size) (hi:i<m) (hms:m≤40000) (hns:n≤4000) (hd:DefOk rs n) (hl:l<4398046511104):
  Calls Tryz.prog 119 #[.int .i64 (i:Int),.int .i64 k,.pointer (some ⟨n6,0,none⟩),.pointer (some ⟨r3,0,none⟩),.pointer (some ⟨o8,0,none⟩),.pointer (some ⟨w9,0,none⟩)] w fun e w'=>
   e=.returned (.tuple #[])∧∃v' l',Blk w' ob 3 (fnCells n (reachS rs f k (o,nw) i).1)∧w'.cell? ⟨w9,0,none⟩=some v'∧w'.frozen? ⟨w9,0,none⟩=false∧OwnI w' w1.heap.size v' l' (reachS rs f k (o,nw) i).2∧Kept [ob,w9] w1 w':=by
 subst hm
 obtain⟨r,hri,-⟩:=hr.drop hi
 obtain⟨b,off,hA,hl',hc,bA,bl,bc,wA,wl,wc',rfl,hbl,c0,c1,c2,c3,c4,c5,hin⟩:=hr.rule hri
 have lb:=World.block_lt_of_cell? _ _ c1;replace c1:=(hB.cell (World.block_lt_of_cell? _ _ c1)).trans c1;have hx:w.cell? ⟨nb,i,none⟩=some (.int .i64 (f i)):=by rw[hn.cell,fnCells_get _ _ _ hi]
 have i0:(0:Int)≤(i:Int):=(by omega);have i1:(i:Int)<(rl:Int):=(by omega)
 have hw9:some w9≠v.ownBlock:=fun e=>by
  have:=(hv.2.lt w9 e.symm).1;omega
 by_cases hp:f i≤0
 ·have p1:decide (f i≤0)=true:=decide_eq_true hp
  cases hh:r.head with
  |nil=>
   have he:reachS rs f k (o,nw) i=(o,nw):=(by simp[reachS,hri,hh]);rw[he];have hl0:hl'=0:=(by have:=hin.1.len;rw[hh]at this;simpa using this);subst hl0;generalize f i=x at hx hp p1;have hfin:Kept [ob,w9] w1 w∧Blk w ob 3 (fnCells n o)∧OwnI w w1.heap.size v l nw:=⟨hK,ho,hv⟩
   obtain⟨HP,HR,HB,HD,HIN,HRI,HH,HFIN,HN,HO,HV,HK⟩:=Zq12 hp hr hB hd hin hri hh hfin hn ho hv hK;clear hp hr hB hd hin hri hh hfin hn ho hv hK
   have HE:=Zq1 he;clear he;clear c0 c2 c3 c4 c5;go_enter Tryz.func119,Tryz.ntmps119;go_wp2_with fail;refine wp_region_later [(⟨n6,0,none⟩,.slice (some ⟨nb,0,none⟩) rl rl),(⟨nb,i,none⟩,.int .i64 x),(⟨r3,0,none⟩,.slice (some ⟨b,off,none⟩) rl rc),(⟨b,off+i*6+1,none⟩,.slice hA 0 hc)] (by kernel_rfl) (by kernel_rfl) (by simp[go_sem, *]) ?_;intro hk;simp only[List.forall_mem_cons]at hk;obtain⟨k1_0,k1_1,k1_2,k1_3,kz⟩:=hk;clear kz
   repeat go_big_quiet_step (fail)
   refine wpQuiet_nil ?_;rintro w2 ⟨u1,rfl⟩;have HU1:=Zq1 u1.h;clear k1_0 k1_1 k1_2 k1_3;go_wp2_with fail;go_end0
   exact⟨rfl,v,l,HO.out.bel HU1.out,(HU1.out.cell (World.block_lt_of_cell? _ _ h9)).trans h9,(HU1.out.frozen (World.block_lt_of_cell? _ _ h9)).trans f9,HV.out.bel HU1.out,HK.out.bel HU1.out⟩
  |cons a t=>
   have ha:=hd.head r (List.mem_of_getElem? hri) a (by rw[hh];simp)
   obtain⟨j,rfl⟩:∃j:Nat,a=(j:Int)+1:=⟨(a-1).toNat,by omega⟩
   have hl0:0<hl':=(by have:=hin.1.len;rw[hh]at this;simp at this;omega)
   obtain⟨g,goff,rfl,_,ca,_⟩:=hin.1.int (k:=0) (x:=(j:Int)+1) (by rw[hh];rfl)
   rw[Nat.add_zero]at ca;have lg:=World.block_lt_of_cell? _ _ ca;replace ca:=(hB.cell lg).trans ca;have hjn:j<n:=(by omega);have hoj:w.cell? ⟨ob,j,none⟩=some (.int .i64 (o j)):=(by rw[ho.cell,fnCells_get _ _ _ hjn]);have e1:IntKind.i64.wrap ((j:Int)+1-1)=j:=(by rw[IntWalk.i64_in _ (by omega)];omega);have q1:decide (0<(hl':Int))=true:=decide_eq_true (by omega);have q2:decide (0<hl')=true:=decide_eq_true (by omega);have j0:(0:Int)≤(j:Int):=(by omega);have j1:(j:Int)<(n:Int):=(by omega);have z1:(0:Int)<(hl':Int):=(by omega);have ej:((j:Int)+1-1).toNat=j:=(by omega)
   by_cases hz:o j=0
   ·have he:reachS rs f k (o,nw) i=(upd o j k,nw++[(j:Int)+1]):=by
     simp only[reachS,hri,hh,Option.bind_some,List.head?_cons,ej];rw[if_pos ⟨hp,hz⟩]
    rw[he];have s1:(o j==0)=true:=(by simpa using hz);have hsz:(nw++[(j:Int)+1]).map (Value.int .i64)=nw.map (Value.int .i64)++[.int .i64 ((j:Int)+1)]:=(by simp);have lw:=World.block_lt_of_cell? _ _ h9;generalize f i=x at hx hp p1;generalize o j=y at hoj hz s1
    obtain⟨HP,HR,HB,HD,HIN,HRI,HH,HN,HO,HV,HK,HE⟩:=Zq12 hp hr hB hd hin hri hh hn ho hv hK he;clear hp hr hB hd hin hri hh hn ho hv hK he
    obtain⟨HZ,HA,HW9,HSZ,D1,D2,L9,LO,LC⟩:=Zq9 hz ha hw9 hsz d1 d2 l9 lo lc;clear hz ha hw9 hsz d1 d2 l9 lo lc
    go_enter Tryz.func119,Tryz.ntmps119;go_wp2_with fail;refine wp_region_later [(⟨n6,0,none⟩,.slice (some ⟨nb,0,none⟩) rl rl),(⟨nb,i,none⟩,.int .i64 x),(⟨r3,0,none⟩,.slice (some ⟨b,off,none⟩) rl rc),(⟨b,off+i*6+1,none⟩,.slice (some ⟨g,goff,none⟩) hl' hc),(⟨g,goff,none⟩,.int .i64 ((j:Int)+1)),(⟨o8,0,none⟩,.slice (some ⟨ob,0,none⟩) n n),(⟨ob,j,none⟩,.int .i64 y)] (by kernel_rfl) (by kernel_rfl) (by simp[go_sem, *]) ?_;intro hk;simp only[List.forall_mem_cons]at hk;obtain⟨k1_0,k1_1,k1_2,k1_3,k1_4,k1_5,k1_6,kz⟩:=hk;clear kz
    repeat go_big_quiet_step (fail)
    refine wpQuiet_nil ?_;rintro w2 ⟨u1,rfl⟩;have HU1:=Zq1 u1.h;clear k1_0 k1_1 k1_2 k1_3 k1_4 k1_5 k1_6;have hc3:=(HU1.out.cell (World.block_lt_of_cell? _ _ h3)).trans h3;have hc8:=(HU1.out.cell (World.block_lt_of_cell? _ _ h8)).trans h8;have hc1:=(HU1.out.cell (World.block_lt_of_cell? _ _ c1)).trans c1;have hca:=(HU1.out.cell (World.block_lt_of_cell? _ _ ca)).trans ca;have hco:=(HU1.out.cell (World.block_lt_of_cell? _ _ hoj)).trans hoj;have hc9:=(HU1.out.cell lw).trans h9;have hf9:=(HU1.out.frozen lw).trans f9;have HO1:=Zq1 (HO.out.bel HU1.out);have HV1:=Zq1 (HV.out.bel HU1.out);have HK1:=Zq1 (HK.out.bel HU1.out);have hfo:u1.w.frozen? ⟨ob,j,none⟩=false:=HO1.out.frozen j;clear c0 c1 c2 c3 c4 c5 h3 h8 ca hoj h9 f9 h6 hx;go_wp2_with fail;go_region;have g1:b≠ob:=(by have:=LC.out;have h:b<wc.heap.size:=lb;omega);have g2:g≠ob:=(by have:=LC.out;have h:g<wc.heap.size:=lg;omega);have hs:=fun(q:Addr) (hq:q.block≠ob)=>World.cell?_of_block (Below.heap_setCell u1.w ⟨ob,j,none⟩ (.int .i64 k) q.block hq);have k3:((u1.w.setCell ⟨ob,j,none⟩ (.int .i64 k)).drew).cell? ⟨r3,0,none⟩=_:=(hs _ D2.out).trans hc3;have k1:((u1.w.setCell ⟨ob,j,none⟩ (.int .i64 k)).drew).cell? ⟨b,off+i*6+1,none⟩=_:=(hs _ g1).trans hc1;have ka:((u1.w.setCell ⟨ob,j,none⟩ (.int .i64 k)).drew).cell? ⟨g,goff,none⟩=_:=(hs _ g2).trans hca;have k9:((u1.w.setCell ⟨ob,j,none⟩ (.int .i64 k)).drew).cell? ⟨w9,0,none⟩=_:=(hs _ D1.out).trans hc9;have kf9:((u1.w.setCell ⟨ob,j,none⟩ (.int .i64 k)).drew).frozen? ⟨w9,0,none⟩=false:=(World.frozen?_of_block (Below.heap_setCell u1.w ⟨ob,j,none⟩ (.int .i64 k) w9 D1.out)).trans hf9
    have ko:Blk ((u1.w.setCell ⟨ob,j,none⟩ (.int .i64 k)).drew) ob 3 (fnCells n (upd o j k)):=by
     have:=HO1.out.set_ j (.int .i64 k)
     rw[fnCells_set]at this;exact this
    have k1x:Kept [ob] u1.w ((u1.w.setCell ⟨ob,j,none⟩ (.int .i64 k)).drew):=((Kept.refl _ _).set (.inl (by simp)) _).drew
    have kv:=HV1.out.keptS k1x (fun q hq hm=>by
     have h1:=(HV1.out.2.lt q hq).1;have h2:=LO.out;simp at hm;omega)
    have kk:Kept [ob,w9] w1 ((u1.w.setCell ⟨ob,j,none⟩ (.int .i64 k)).drew):=(HK1.out.set (.inl (by simp)) _).drew;clear hs k1x
    obtain⟨KO,KV,KK,G1,G2⟩:=Zq5 ko kv kk g1 g2;clear ko kv kk g1 g2
    clear hc3 hc1 hca hc9 hf9 hc8 hco hfo;generalize (u1.w.setCell ⟨ob,j,none⟩ (.int .i64 k)).drew=W at *;have hbase:w1.heap.size≤W.heap.size:=KK.out.size;have k9l:=World.block_lt_of_cell? _ _ k9
    obtain⟨ii,hi0,hz0,hz1,hz2⟩:=info_parts info_int
    go_wp2_with fail
    go_region_law
     ((
      refine step_append_lies _ (by rfl) _ _ _ (by rfl) w1.heap.size 3 ii _ 1 8 Tryz.underlying23 hi0 hz0 hz1 hz2 rfl (by omega) v l (nw.map (Value.int .i64)) (by rfl) ((KV.out.2.alloc _).drew)
       ⟨W.heap.size,0,none⟩ 1 1 [.int .i64 ((j:Int)+1)] (by rfl) (by rfl) (World.news_of_block (cs:=#[.int .i64 ((j:Int)+1)]) (t:=3) (fr:=(0,0)) (heap_alloc_new W _)) (by simp[Value.oneCell'])
       (by omega) (by unfold maxLen;omega) (by omega) (by simp;omega) (W.heap.size+1) (by simp) ?_;intro gg cap w3 hown3 hgrow hat hlt
      have hz9:w3.cell? ⟨w9,0,none⟩=some v:=(hgrow.cell_far ⟨w9,0,none⟩ (by simp;omega) HW9.out).trans (((bel_alloc W _).drew.cell k9l).trans k9);have hy9:w3.frozen? ⟨w9,0,none⟩=false:=(hgrow.frozen_far ⟨w9,0,none⟩ (by simp;omega) HW9.out).trans (((bel_alloc W _).drew.frozen k9l).trans kf9)))
    all_goals
     have HG:=Zq1 (grown_grown (grown_drew (grown_alloc (grown_refl W v.ownBlock) _)) hgrow (fun k hk=>.inl hk));have HT:=Zq1 hown3;have HA9:=Zq1 hat;clear hown3 hgrow hat;go_wp2_with fail;go_end0
     have hob:some ob≠v.ownBlock:=fun e=>by
      have h1:=(KV.out.2.lt ob e.symm).1;have h2:=LO.out;omega
     have hgg:gg≠w9:=fun e=>by
      rcases HA9.out with h1 | h1
      ·exact HW9.out (by rw[h1,e])
      ·have h2:=L9.out;omega
     refine⟨rfl,.slice (some ⟨gg,0,none⟩) (l+1) cap,l+1,(KO.out.grown HG.out hob).far (Ne.symm D1.out) _,World.cell?_setCell_same' w3 _ _ (by rw[hz9];rfl),by rw[World.frozen?_setCell];exact hy9,?_,(KK.out.grown HG.out (fun q hq=>.inr (KV.out.2.lt q hq).1)).set (.inl (by simp)) _⟩
     have h5:OwnI w3 w1.heap.size (.slice (some ⟨gg,0,none⟩) (l+1) cap) (l+1) (nw++[(j:Int)+1]):=⟨by rw[KV.out.1];simp,by rw[HSZ.out];exact HT.out⟩
     exact h5.keptS ((Kept.refl [w9] w3).set (.inl (by simp)) _) (fun q hq hm=>by
      have:q=gg:=(by simpa[Value.ownBlock]using hq.symm)
      simp at hm;omega)
   ·have he:reachS rs f k (o,nw) i=(o,nw):=by
     simp only[reachS,hri,hh,Option.bind_some,List.head?_cons,ej];rw[if_neg (fun hx=>hz hx.2)]
    rw[he];have s1:(o j==0)=false:=(by simpa using hz);generalize f i=x at hx hp p1;generalize o j=y at hoj hz s1
    obtain⟨HP,HR,HB,HD,HIN,HRI,HH,HN,HO,HV,HK,HE⟩:=Zq12 hp hr hB hd hin hri hh hn ho hv hK he;clear hp hr hB hd hin hri hh hn ho hv hK he
    obtain⟨HZ,HA⟩:=Zq2 hz ha;clear hz ha
    clear c0 c2 c3 c4 c5;go_enter Tryz.func119,Tryz.ntmps119;go_wp2_with fail;refine wp_region_later [(⟨n6,0,none⟩,.slice (some ⟨nb,0,none⟩) rl rl),(⟨nb,i,none⟩,.int .i64 x),(⟨r3,0,none⟩,.slice (some ⟨b,off,none⟩) rl rc),(⟨b,off+i*6+1,none⟩,.slice (some ⟨g,goff,none⟩) hl' hc),(⟨g,goff,none⟩,.int .i64 ((j:Int)+1)),(⟨o8,0,none⟩,.slice (some ⟨ob,0,none⟩) n n),(⟨ob,j,none⟩,.int .i64 y)] (by kernel_rfl) (by kernel_rfl) (by simp[go_sem, *]) ?_;intro hk;simp only[List.forall_mem_cons]at hk;obtain⟨k1_0,k1_1,k1_2,k1_3,k1_4,k1_5,k1_6,kz⟩:=hk;clear kz
    repeat go_big_quiet_step (fail)
    refine wpQuiet_nil ?_;rintro w2 ⟨u1,rfl⟩;have HU1:=Zq1 u1.h;clear k1_0 k1_1 k1_2 k1_3 k1_4 k1_5 k1_6;go_wp2_with fail;go_end0
    exact⟨rfl,v,l,HO.out.bel HU1.out,(HU1.out.cell (World.block_lt_of_cell? _ _ h9)).trans h9,(HU1.out.frozen (World.block_lt_of_cell? _ _ h9)).trans f9,HV.out.bel HU1.out,HK.out.bel HU1.out⟩
 ·have p1:decide (f i≤0)=false:=decide_eq_false hp
  have he:reachS rs f k (o,nw) i=(o,nw):=by
   unfold reachS
   cases rs[i]?.bind fun r=>r.head.head? with
   |none=>rfl
   |some a=>simp only;rw[if_neg (fun hx=>hp hx.1)]
  rw[he];generalize f i=x at hx hp p1
  obtain⟨HP,HR,HB,HD,HIN,HRI,HN,HO,HV,HK,HE⟩:=Zq11 hp hr hB hd hin hri hn ho hv hK he;clear hp hr hB hd hin hri hn ho hv hK he
  clear c0 c2 c3 c4 c5;go_enter Tryz.func119,Tryz.ntmps119;go_wp2_with fail;refine wp_region_later [(⟨n6,0,none⟩,.slice (some ⟨nb,0,none⟩) rl rl),(⟨nb,i,none⟩,.int .i64 x)] (by kernel_rfl) (by kernel_rfl) (by simp[go_sem, *]) ?_;intro hk;simp only[List.forall_mem_cons]at hk;obtain⟨k1_0,k1_1,kz⟩:=hk;clear kz
  repeat go_big_quiet_step (fail)
  refine wpQuiet_nil ?_;rintro w2 ⟨u1,rfl⟩;have HU1:=Zq1 u1.h;clear k1_0 k1_1;go_wp2_with fail;go_end0
  exact⟨rfl,v,l,HO.out.bel HU1.out,(HU1.out.cell (World.block_lt_of_cell? _ _ h9)).trans h9,(HU1.out.frozen (World.block_lt_of_cell? _ _ h9)).trans f9,HV.out.bel HU1.out,HK.out.bel HU1.out⟩

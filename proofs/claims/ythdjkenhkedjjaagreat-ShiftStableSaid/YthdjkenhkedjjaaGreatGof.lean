/- Gof -/
import Derived.Test.YthdjkenhkedjjaaGreatGT
import Derived.Test.YthdjkenhkedjjaaGreatGL
import Derived.Test.YthdjkenhkedjjaaGreatGC
import Derived.Test.YthdjkenhkedjjaaGreatSrw
import Derived.Lib.RowBridge
set_option maxRecDepth 100000
set_option maxHeartbeats 8000000
namespace Go.Proofs.YthdjkenhkedjjaaGreat
open Go.RowKit Go.Shelf
attribute [local go_sem] Oper.semAt_some
structure OfS (w:World)(base gb ub n:Nat)(W:World)(U:Nat→LI)(us:Nat→Value)(ls:Nat→Nat):Prop where
 gr:GrowI W base ub n U us ls
 bx:Blk W gb 91 #[.slice (some ⟨ub,0,none⟩) n n]
 bel:Below w.heap.size w W
 sz:base≤W.heap.size
 lo:w.heap.size≤ub∧ub<gb∧gb<base
theorem OfS.ext {w:World}{base gb ub n:Nat}{W W':World}{U:Nat→LI}{us:Nat→Value}{ls:Nat→Nat}(h:OfS w base gb ub n W U us ls)(hb:Below W.heap.size W W'):OfS w base gb ub n W' U us ls:=
 ⟨h.gr.bel hb,h.bx.bel hb,bel_trans h.bel hb,Nat.le_trans h.sz hb.size,h.lo⟩
def headL (b:LI)(hs:LI)(a:Nat):LI:=hs.flatMap fun h=>if h=(a:Int)then psL b else[]
theorem headL_snoc {b hs:LI}{k:Nat}{h:Int}(hk:hs[k]? = some h)(a:Nat):headL b (hs.take (k+1)) a=headL b (hs.take k) a++(if h=(a:Int)then psL b else[]):=by
 unfold headL;rw[List.take_add_one,hk,List.flatMap_append];simp
theorem rawL_snoc {rs:LG}{i:Nat}{r:GRule}(hi:rs[i]? = some r)(a:Nat):rawL (rs.take (i+1)) a=rawL (rs.take i) a++headL r.body r.head a:=by
 unfold rawL headL;rw[List.take_add_one,hi,List.flatMap_append];simp
theorem OwnI.shape {W:World}{base:Nat}{v:Value}{l:Nat}{xs:LI}(h:OwnI W base v l xs):∃A l c,v=.slice A l c:=by
 rcases h.2.2 with⟨rfl,_⟩ | ⟨g,cap,cur,rfl,_⟩
 ·exact⟨_,_,_,rfl⟩
 ·exact⟨_,_,_,rfl⟩
theorem kept_ownI {w w':World}{v:Value}(hg:w.grownBy w' v.ownBlock):Kept v.ownBlock.toList w w':=(Kept.refl _ w).grown hg (fun q hq=>.inl (by simp[hq]))
def mkD (D:Nat):Deferred:={ target:=.collected D,args:=#[] }
structure Mks (w W:World)(Ds:LN):Prop where
 nd:Ds.Nodup
 m:∀D∈Ds,w.heap.size≤D∧W.heap[D]? = some (.deferred (some []))
theorem Mks.nil (w W:World):Mks w W []:=⟨List.nodup_nil,fun D h=>(by cases h)⟩
theorem Mks.lt {w W:World}{Ds:LN}(h:Mks w W Ds){D:Nat}(hD:D∈Ds):D<W.heap.size:=by
 have h1:=(h.m D hD).2;rcases Nat.lt_or_ge D W.heap.size with q | q
 ·exact q
 ·rw[Array.getElem?_eq_none q]at h1;cases h1
theorem Mks.kept {w W W':World}{Ds M:LN}(h:Mks w W Ds)(hk:Kept M W W')(hM:∀k∈M,∃o,W.heap[k]? = some o∧o.isCells=true):Mks w W' Ds:=
 ⟨h.nd,fun D hD=>⟨(h.m D hD).1,(hk.block D (h.lt hD) (fun hm=>by
  obtain⟨o,h1,h2⟩:=hM D hm
  rw[(h.m D hD).2]at h1
  cases h1;cases h2)).trans (h.m D hD).2⟩⟩
theorem Mks.bel {w W W':World}{Ds:LN}(h:Mks w W Ds)(hb:Below W.heap.size W W'):Mks w W' Ds:=h.kept (Kept.of_below hb []) (fun k hk=>(by cases hk))
theorem leaves_marks {fn:Func}{tmps:Array Value}{R:Ending→World→Prop}{w:World}:∀(Ds:LN)(W:World),Mks w W Ds →
  (∀W',Kept Ds W W'→LeavesInM Fence.wide 5 Tryz.prog fn tmps R [] .returning W')→LeavesInM Fence.wide 5 Tryz.prog fn tmps R (Ds.map mkD) .returning W
 |[],W,_,h=>h W (Kept.refl _ _)
 |D::Ds,W,hm,h=>by
  have hD:=hm.m D (List.mem_cons_self ..);have hk:=kept_putObj W D (.deferred none);have hnd:=List.nodup_cons.1 hm.nd
  refine⟨by simp,.inl ⟨D,_,rfl,run_takeDeferred hD.2,leaves_marks (w:=w) Ds _ ⟨hnd.2,fun E hE=>?_⟩ fun W' hk'=>h W' ?_⟩⟩
  ·have hEm:=hm.m E (List.mem_cons_of_mem _ hE)
   refine⟨hEm.1,(hk.block E (hm.lt (List.mem_cons_of_mem _ hE)) (fun q=>?_)).trans hEm.2⟩
   have:E=D:=(by simpa using q)
   subst this;exact hnd.1 hE
  ·exact(hk.more (fun k hk=>by simp at hk;simp[hk])).trans (hk'.more fun k hk=>List.mem_cons_of_mem _ hk)
theorem GrowI.same {w w':World}{base ub n:Nat}{U:Nat→LI}{us:Nat→Value}{ls:Nat→Nat}(h:GrowI w base ub n U us ls)(hub:ub<base){a:Nat}(ha:a<n){l':Nat}{xs:LI}
  (ho:OwnI w' base (us a) l' xs) (hg:w.grownBy w' (us a).ownBlock):GrowI w' base ub n (updG U a xs) us (fun j=>if j=a then l' else ls j):=
 ⟨h.blk.grown hg (fun e=>by have:=((h.own a ha).2.lt ub e.symm).1;omega),fun b hb=>by
  by_cases e:b=a
  ·subst e;simp only[updG,if_true];exact ho
  ·simp only[updG,e,if_false]
   refine(h.own b hb).kept hg ?_
   cases hq:(us b).ownBlock with
   |none=>exact .inl rfl
   |some k=>exact .inr fun e2=>h.ne b a k hb ha e hq e2.symm,h.ne⟩
theorem OfS.same {w:World}{base gb ub n:Nat}{W W':World}{U:Nat→LI}{us:Nat→Value}{ls:Nat→Nat}(h:OfS w base gb ub n W U us ls){a:Nat}(ha:a<n){l':Nat}{xs:LI}
  (ho:OwnI W' base (us a) l' xs) (hg:W.grownBy W' (us a).ownBlock):OfS w base gb ub n W' (updG U a xs) us (fun j=>if j=a then l' else ls j):=
 ⟨h.gr.same (by have:=h.lo;omega) ha ho hg,h.bx.grown hg (fun e=>by have:=((h.gr.own a ha).2.lt gb e.symm).1;have:=h.lo;omega),bel_grown h.bel hg h.bel.size (fun k hk=>by have:=((h.gr.own a ha).2.lt k hk).1;have:=h.lo;omega),Nat.le_trans h.sz hg.size,h.lo⟩
theorem Mks.grown {w W W':World}{Ds:LN}(h:Mks w W Ds){base:Nat}{v:Value}{l:Nat}{xs:LI}(ho:OwnI W base v l xs)(hg:W.grownBy W' v.ownBlock):Mks w W' Ds:=
 h.kept (kept_ownI hg) (fun k hk=>by
  obtain⟨cs,hc⟩:=ownI_blk ho (by simpa using hk)
  exact⟨_,hc,rfl⟩)
theorem marks_off {W:World}{Ds:LN}(hm:∀D∈Ds,∀o,W.heap[D]? = some o→o.isCells=false){A:OA}{l c:Nat}{xs:LI}(h:SlIs intR W A l c xs):Off Ds A l:=fun h0 ad e hD=>h.offN (hm ad.block hD) h0 ad e (by simp)
theorem marks_off2 {W:World}{Ds:LN}(hm:∀D∈Ds,∀o,W.heap[D]? = some o→o.isCells=false){A:OA}{l c:Nat}{xs:List (LI)}(h:SlIs (slR intR) W A l c xs):Off Ds A l:=fun h0 ad e hD=>by
 have hl:=h.1
 obtain⟨b,off,A',l',c',e2,_,hc,_⟩:=h.set (k:=0) (List.getElem?_eq_getElem (show 0<xs.length by omega))
 rw[e]at e2;cases e2
 obtain⟨ob,h1,h2⟩:=cells_of_cell hc
 rw[hm _ hD _ h1]at h2;cases h2
theorem marks_sl {W V:World}{Ds:LN}(hm:∀D∈Ds,∀o,W.heap[D]? = some o→o.isCells=false)(hk:Kept Ds W V){A:OA}{l c:Nat}{xs:List (LI)}(h:SlIs (slR intR) W A l c xs):SlIs (slR intR) V A l c xs:=
 h.keptR hk (marks_off2 hm h) fun cs x _ hx=>by
  obtain⟨A',l',c',e,hs⟩:=hx
  exact⟨A',l',c',e,hs.keptM hk (marks_off hm hs)⟩
structure OfJ (w:World)(base gb ub n:Nat)(U0:Nat→LI)(h kb5 kb7:Nat)(RC:Array Value)(Ds:LN)(L:Nat)(M:LN)(pre:LI)(W:World):Prop where
 mks:Mks w W Ds∧∀D∈Ds,D<L
 ex:∃us ls,M=ub::(us h).ownBlock.toList∧OfS w base gb ub n W (fun a=>U0 a++if h=a then pre else[]) us ls∧∀a,a<n→∀q,(us a).ownBlock=some q→q≠kb7
 kb7:Blk W kb7 3 #[.int .i64 (h:Int)]
 kb5:Blk W kb5 42 RC
theorem OfJ.bel {w:World}{base gb ub n:Nat}{U0:Nat→LI}{h kb5 kb7:Nat}{RC:Array Value}{Ds:LN}{L:Nat}{M:LN}{pre:LI}{A B:World}(j:OfJ w base gb ub n U0 h kb5 kb7 RC Ds L M pre A)(hb:Below A.heap.size A B):OfJ w base gb ub n U0 h kb5 kb7 RC Ds L M pre B:=by
 obtain⟨us,ls,e,o,k⟩:=j.ex
 exact⟨⟨j.mks.1.bel hb,j.mks.2⟩,⟨us,ls,e,o.ext hb,k⟩,j.kb7.bel hb,j.kb5.bel hb⟩
theorem GrowI.keepN {A B:World}{base ub n:Nat}{U:Nat→LI}{us:Nat→Value}{ls:Nat→Nat}{k:Nat}(h:GrowI A base ub n U us ls)(hn:∀o,A.heap[k]? = some o→o.isCells=false)(hk:Kept [k] A B):GrowI B base ub n U us ls:=
 ⟨hk.blk h.blk (by have:=blk_ne h.blk hn;simp;exact fun e=>this e.symm),fun a ha=>ownI_keptS (h.own a ha) hk (fun q hq hm=>by
  simp at hm;subst hm
  obtain⟨cs,hc⟩:=ownI_blk (h.own a ha) hq
  have:=hn _ hc
  cases this),h.ne⟩
theorem OfJ.keep {w:World}{base gb ub n:Nat}{U0:Nat→LI}{h kb5 kb7:Nat}{RC:Array Value}{Ds:LN}{L:Nat}{M:LN}{pre:LI}{A B:World}{k:Nat}(hw:w.heap.size≤k)(hL:L≤k)(j:OfJ w base gb ub n U0 h kb5 kb7 RC Ds L M pre A)(hn:∀o,A.heap[k]? = some o→o.isCells=false)(hk:Kept [k] A B):OfJ w base gb ub n U0 h kb5 kb7 RC Ds L M pre B:=by
 obtain⟨us,ls,e,o,q⟩:=j.ex
 refine⟨⟨⟨j.mks.1.nd,fun D hD=>⟨(j.mks.1.m D hD).1,(hk.block D (j.mks.1.lt hD) (fun q=>by have h1:=j.mks.2 D hD;have e:D=k:=(by simpa using q);omega)).trans (j.mks.1.m D hD).2⟩⟩,j.mks.2⟩,⟨us,ls,e,⟨o.gr.keepN hn hk,hk.blk o.bx (by have:=blk_ne o.bx hn;simp;exact fun e=>this e.symm),Kept.below o.bel hk o.bel.size (fun q hq=>by simp at hq;omega),Nat.le_trans o.sz hk.size,o.lo⟩,q⟩,hk.blk j.kb7 (by have:=blk_ne j.kb7 hn;simp;exact fun e=>this e.symm),hk.blk j.kb5 (by have:=blk_ne j.kb5 hn;simp;exact fun e=>this e.symm)⟩
theorem OfJ.cells {w:World}{base gb ub n:Nat}{U0:Nat→LI}{h kb5 kb7:Nat}{RC:Array Value}{Ds:LN}{L:Nat}{M:LN}{pre:LI}{A:World}(j:OfJ w base gb ub n U0 h kb5 kb7 RC Ds L M pre A)(hh:h<n):∀k∈M,∃o,A.heap[k]? = some o∧o.isCells=true:=fun k hk=>by
 obtain⟨us,ls,rfl,o,q⟩:=j.ex
 rcases List.mem_cons.1 hk with rfl | hk
 ·exact⟨_,o.gr.blk,rfl⟩
 ·obtain⟨cs,hc⟩:=ownI_blk (o.gr.own h hh) (by simpa using hk)
  exact⟨_,hc,rfl⟩
theorem head_len (b:LI)(hb:b.length≤8000):∀(hs:LI)(a:Nat),(headL b hs a).length≤hs.length*8000
 |[],a=>by simp[headL]
 |h::t,a=>by
  have ih:=head_len b hb t a;unfold headL at ih ⊢;rw[List.flatMap_cons,List.length_append,List.length_cons,Nat.add_mul]
  have:(if h=(a:Int)then psL b else[]).length≤8000:=by
   split
   ·exact Nat.le_trans (List.length_filter_le _ _) hb
   ·simp
  omega
theorem raw_len:∀(rs:LG)(a:Nat),(∀r∈rs,r.head.length≤4000∧r.body.length≤8000)→(rawL rs a).length≤rs.length*32000000
 |[],a,_=>by simp[rawL]
 |r::t,a,h=>by
  have ih:=raw_len t a fun r hr=>h r (List.mem_cons_of_mem _ hr);have h1:=h r (List.mem_cons_self ..);have h2:=head_len r.body h1.2 r.head a;have h3:r.head.length*8000≤4000*8000:=Nat.mul_le_mul_right _ h1.1;unfold rawL headL at *;rw[List.flatMap_cons,List.length_append,List.length_cons,Nat.add_mul];omega
theorem of_any (p:GProg)(nA:OA)(nl nc:Nat)(sA:OA)(sl sc:Nat)(rA:OA)(rl rc:Nat)(mA:OA)(ml mc:Nat)(w:World)(hp:ProgIn w p nA nl nc sA sl sc rA rl rc mA ml mc)(hi:ProgIs p)(h0:0≤p.n):
  Calls Tryz.prog 62 #[.agg #[.int .i64 p.n,.slice nA nl nc,.slice sA sl sc,.slice rA rl rc,.slice mA ml mc]] w fun e w'=>∃ub,e=.returned (.slice (some ⟨ub,0,none⟩) (p.n.toNat+1) (p.n.toNat+1))∧SlIs (slR intR) w' (some ⟨ub,0,none⟩) (p.n.toNat+1) (p.n.toNat+1) (ofL p)∧w.heap.size≤ub∧Below w.heap.size w w':=by
 have hn4:=(namedB_n hi.named).2
 obtain⟨N,hN⟩:∃N:Nat,p.n=(N:Int):=⟨p.n.toNat,by omega⟩
 have hNn:p.n.toNat=N:=(by omega);have hN4:N≤4000:=(by omega);have hrc:=hp.rules.cap;have hrm:=hp.rules.max;have hrl:=hp.rules.len
 have hrb:∀r∈p.rules,r.head.length≤4000∧r.body.length≤8000:=fun r hr=>by
  have h:=hi.rules r hr;have h1:=inc_lenN h.n0 h.head;have h2:=ordB_len h.n0 h.body;have h3:=h.n1;omega
 have hfw:=hi.few;have e1:IntKind.i64.wrap ((N:Int)+1)=(N:Int)+1:=IntWalk.i64_in _ (by omega);rw[hNn]
 refine(callsIn_wide (n:=5)).1 ?_
 refine callsIn_of_wp_marks Tryz.func62 rfl trivial ?_ rfl;simp only[Tryz.ntmps62,List.size_toArray,List.length_cons,List.length_nil,Nat.reduceAdd,Nat.reduceSub,Array.replicate_succ,Array.replicate_zero,List.push_toArray,List.append_toArray,List.nil_append,List.cons_append];rw[hN]
 have hmk:∀W:World,(Instr.makeSlice 91 (.int .i64 ((N:Int)+1)) (.int .i64 ((N:Int)+1))).run Tryz.prog W=.ok (.slice (some ⟨W.heap.size,0,none⟩) (N+1) (N+1)) (W.alloc (.cells (valCells (N+1) fun _=>.slice none 0 0) 23)):=fun W=>by
  have h:=make_graph (N+1) (by omega) W
  rwa [show (((N+1:Nat)):Int)=(N:Int)+1 by omega]at h
 obtain⟨HP,HI,HRL,HN,HNN,HRB,HFW⟩:=Zq7 hp hi hrl hN hNn hrb hfw;clear hp hi hrl hN hNn hrb hfw
 gi_wp2_with fail
 have hS:OfS w (w.heap.size+3) (w.heap.size+2) (w.heap.size+1) (N+1) (((w.alloc (.cells #[.int .i64 (N:Int),.slice nA nl nc,.slice sA sl sc,.slice rA rl rc,.slice mA ml mc] 27)).alloc (.cells (valCells (N+1) fun _=>.slice none 0 0) 23)).alloc (.cells #[.slice (some ⟨w.heap.size+1,0,none⟩) (N+1) (N+1)] 91)) (fun a=>rawL (p.rules.take 0) a) (fun _=>.slice none 0 0) (fun _=>0):=by
  refine⟨?_,blk_new (by simp) _ _,bel_trans (bel_trans (bel_alloc _ _) (bel_alloc _ _)) (bel_alloc _ _),by simp,by omega⟩
  have:(fun a=>rawL (p.rules.take 0) a)=fun _=>[]:=by funext a;simp[rawL]
  rw[this]
  exact(GrowI.new (base:=w.heap.size+3) (blk_new (by simp) _ _)).bel (bel_alloc _ _)
 generalize (((w.alloc (.cells #[.int .i64 (N:Int),.slice nA nl nc,.slice sA sl sc,.slice rA rl rc,.slice mA ml mc] 27)).alloc (.cells (valCells (N+1) fun _=>.slice none 0 0) 23)).alloc (.cells #[.slice (some ⟨w.heap.size+1,0,none⟩) (N+1) (N+1)] 91))=W1 at *;clear hmk e1;have HS:=Zq1 hS;clear hS;refine wpIn_loop (fun a' w'=>∃(u5 u7 u8 u17 u18 u19 u20 u21 u22 u23 u24 u25 u26 u27 u28 u29 u30 u32 u33 u34 u35 u36 u37 u38 u39 u40 u41 u42 u43:Value) (Ds:LN) (ir:Nat) (us:Nat→Value) (ls:Nat→Nat),(ir≤rl∧u17=.int .i64 (ir:Int)∧OfS w (w.heap.size+3) (w.heap.size+2) (w.heap.size+1) (N+1) w' (fun a=>rawL (p.rules.take ir) a) us ls∧Mks w w' Ds)∧a'={ tmps:=#[.agg #[.int .i64 (N:Int),.slice nA nl nc,.slice sA sl sc,.slice rA rl rc,.slice mA ml mc],.pointer (some ⟨w.heap.size,0,none⟩),.slice none 0 0,.pointer (some ⟨w.heap.size+1+1,0,none⟩),undef,u5,undef,u7,u8,undef,.pointer (some ⟨w.heap.size,0,none⟩),.int .i64 (N:Int),.int .i64 ((N:Int)+1),.slice (some ⟨w.heap.size+1,0,none⟩) (N+1) (N+1),.pointer (some ⟨w.heap.size,3,none⟩),.slice rA rl rc,.int .i64 (rl:Int),u17,u18,u19,u20,u21,u22,u23,u24,u25,u26,u27,u28,u29,u30,undef,u32,u33,u34,u35,u36,u37,u38,u39,u40,u41,u42,u43,undef,undef,undef,undef,undef,undef,undef,undef,undef,undef,undef,undef,undef,undef,undef,undef,undef,undef,undef,undef],defers:=Ds.map mkD }) (fun a' _=>rl-(intOf (a'.tmps.getD 17 undef)).toNat) ?_ ?_
 ·exact⟨_,_,_,_,_,_,_,_,_,_,_,_,_,_,_,_,_,_,_,_,_,_,_,_,_,_,_,_,_,[],0,_,_,⟨Nat.zero_le _,rfl,HS.out,Mks.nil _ _⟩,rfl⟩
 ·rintro _ wo ⟨u5,u7,u8,u17,u18,u19,u20,u21,u22,u23,u24,u25,u26,u27,u28,u29,u30,u32,u33,u34,u35,u36,u37,u38,u39,u40,u41,u42,u43,Ds,ir,us,ls,⟨hi,rfl,ho,hmk⟩,rfl⟩
  by_cases hlt:ir<rl
  ·obtain⟨r,hri,-⟩:=HP.out.rules.drop hlt
   obtain⟨bb,off,hA,hl,hc,bA,bl,bc,wA,wl,wc,rfl,hbl2,x0,x1,x2,x3,x4,x5,g1,g2,g3,g4⟩:=HP.out.rules.rule hri
   have d0:=(ho.bel.cell (World.block_lt_of_cell? _ _ x0)).trans x0;have d1:=(ho.bel.cell (World.block_lt_of_cell? _ _ x1)).trans x1;have d2:=(ho.bel.cell (World.block_lt_of_cell? _ _ x2)).trans x2;have d3:=(ho.bel.cell (World.block_lt_of_cell? _ _ x3)).trans x3;have d4:=(ho.bel.cell (World.block_lt_of_cell? _ _ x4)).trans x4;have d5:=(ho.bel.cell (World.block_lt_of_cell? _ _ x5)).trans x5;clear x0 x1 x2 x3 x4 x5;have k0:(0:Int)≤(ir:Int):=(by omega);have k1:(ir:Int)<(rl:Int):=(by omega);have hri_:=HI.out.rules r (List.mem_of_getElem? hri);have hhc:=g1.cap;have hhm:=g1.max;have hbc:=g3.cap;have hbm:=g3.max;have ha:=bel_alloc wo (.cells #[.bool r.choice,.slice hA hl hc,.bool r.sum,.int .i64 r.bound,.slice bA bl bc,.slice wA wl wc] 42);have kb5:Blk (wo.alloc (.cells #[.bool r.choice,.slice hA hl hc,.bool r.sum,.int .i64 r.bound,.slice bA bl bc,.slice wA wl wc] 42)) wo.heap.size 42 #[.bool r.choice,.slice hA hl hc,.bool r.sum,.int .i64 r.bound,.slice bA bl bc,.slice wA wl wc]:=blk_new rfl _ _;have ho4:=ho.ext ha;have hmk4:=hmk.bel ha;have hs5:=ho.sz;have m1:(wo.alloc (.cells #[.bool r.choice,.slice hA hl hc,.bool r.sum,.int .i64 r.bound,.slice bA bl bc,.slice wA wl wc] 42)).cell? ⟨wo.heap.size,1,none⟩=some (.slice hA hl hc):=kb5.cell 1
   obtain⟨HRI,G1,G2,G3,G4,HRI_,HA,KB5,HO4,HO,HMK4,HMK⟩:=Zq12 hri g1 g2 g3 g4 hri_ ha kb5 ho4 ho hmk4 hmk;clear hri g1 g2 g3 g4 hri_ ha kb5 ho4 ho hmk4 hmk
   gi_wp2_with fail;clear m1 d0 d1 d2 d3 d4 d5;generalize wo.alloc (.cells #[.bool r.choice,.slice hA hl hc,.bool r.sum,.int .i64 r.bound,.slice bA bl bc,.slice wA wl wc] 42)=X4 at *;generalize wo.heap.size=kb5 at *;refine wpIn_loop (fun a' w'=>∃(u7 u8 u24 u25 u26 u27 u28 u29 u30 u32 u33 u34 u35 u36 u37 u38 u39 u40 u41 u42:Value) (Ds:LN) (k:Nat) (us:Nat→Value) (ls:Nat→Nat),(k≤hl∧u24=.int .i64 (k:Int)∧OfS w (w.heap.size+3) (w.heap.size+2) (w.heap.size+1) (N+1) w' (fun a=>rawL (p.rules.take ir) a++headL r.body (r.head.take k) a) us ls∧Blk w' kb5 42 #[.bool r.choice,.slice hA hl hc,.bool r.sum,.int .i64 r.bound,.slice bA bl bc,.slice wA wl wc]∧Mks w w' Ds)∧a'={ tmps:=#[.agg #[.int .i64 (N:Int),.slice nA nl nc,.slice sA sl sc,.slice (some ⟨bb,off,none⟩) rl rc,.slice mA ml mc],.pointer (some ⟨w.heap.size,0,none⟩),.slice none 0 0,.pointer (some ⟨w.heap.size+1+1,0,none⟩),undef,.pointer (some ⟨kb5,0,none⟩),undef,u7,u8,undef,.pointer (some ⟨w.heap.size,0,none⟩),.int .i64 (N:Int),.int .i64 ((N:Int)+1),.slice (some ⟨w.heap.size+1,0,none⟩) (N+1) (N+1),.pointer (some ⟨w.heap.size,3,none⟩),.slice (some ⟨bb,off,none⟩) rl rc,.int .i64 (rl:Int),.int .i64 (ir:Int),.bool true,.pointer (some ⟨bb,off+ir*6,none⟩),.agg #[.bool r.choice,.slice hA hl hc,.bool r.sum,.int .i64 r.bound,.slice bA bl bc,.slice wA wl wc],.pointer (some ⟨kb5,1,none⟩),.slice hA hl hc,.int .i64 (hl:Int),u24,u25,u26,u27,u28,u29,u30,undef,u32,u33,u34,u35,u36,u37,u38,u39,u40,u41,u42,u43,undef,undef,undef,undef,undef,undef,undef,undef,undef,undef,undef,undef,undef,undef,undef,undef,undef,undef,undef,undef],defers:=Ds.map mkD }) (fun a' _=>hl-(intOf (a'.tmps.getD 24 undef)).toNat) ?_ ?_
   ·exact⟨_,_,_,_,_,_,_,_,_,_,_,_,_,_,_,_,_,_,_,_,Ds,0,us,ls,⟨Nat.zero_le _,rfl,by simpa[headL]using HO4.out,KB5.out,HMK4.out⟩,rfl⟩
   ·rintro _ wi ⟨u7,u8,u24,u25,u26,u27,u28,u29,u30,u32,u33,u34,u35,u36,u37,u38,u39,u40,u41,u42,Ds,k,us2,ls2,⟨hk,rfl,ho2,hb5,hmk2⟩,rfl⟩
    by_cases hlk:k<hl
    ·obtain⟨h,hhk,-⟩:=G1.out.drop hlk
     obtain⟨hb_,ho_,rfl,lh,ch,h64⟩:=(G1.out.ext ho2.bel).int hhk
     have hh:=inc_mem HRI_.out.head h (List.mem_of_getElem? hhk);have j0:(0:Int)≤(k:Int):=(by omega);have j1:(k:Int)<(hl:Int):=(by omega)
     obtain⟨hN_,hhN⟩:∃hn:Nat,h=(hn:Int):=⟨h.toNat,by omega⟩
     have hhl:hN_<N+1:=(by have:=HN.out;omega);have hal:=bel_alloc wi (.cells #[.int .i64 h] 3);have kb7:Blk (wi.alloc (.cells #[.int .i64 h] 3)) wi.heap.size 3 #[.int .i64 h]:=blk_new rfl _ _;have ho3:=ho2.ext hal;have hmk3:=hmk2.bel hal;have hb53:=hb5.bel hal;have m4:(wi.alloc (.cells #[.int .i64 h] 3)).cell? ⟨kb5,4,none⟩=some (.slice bA bl bc):=hb53.cell 4;have hb5l:=hb5.lt;have hsz2:=ho2.sz;have hoff:∀a,a<N+1→∀q,(us2 a).ownBlock=some q→q≠wi.heap.size:=fun a ha q hq e=>by have:=((ho2.gr.own a ha).2.lt q hq).2;omega
     obtain⟨HHK,HH,HHN,HAL,KB7,HO3,HB53,HO2,HB5,HOFF,H64,HMK3⟩:=Zq12 hhk hh hhN hal kb7 ho3 hb53 ho2 hb5 hoff h64 hmk3;clear hhk hh hhN hal kb7 ho3 hb53 ho2 hb5 hoff h64 hmk3
     have HMK2:=Zq1 hmk2;clear hmk2;gi_wp2_with fail
     refine⟨trivial,?_⟩
     refine(callsIn_wide.2 (positive_fn bA bl bc _)).mono ?_
     rintro e w3 ⟨rfl,rfl⟩;clear m4 ch;gi_wp2_with fail;have hb73:=KB7.out.alloc (.cells #[.slice bA bl bc] 23);have hcb:Blk ((wi.alloc (.cells #[.int .i64 h] 3)).alloc (.cells #[.slice bA bl bc] 23)) (wi.heap.size+1) 23 #[.slice bA bl bc]:=blk_new (by simp) _ _;have ho33:=HO3.out.ext (bel_alloc _ (.cells #[.slice bA bl bc] 23));have hb533:=HB53.out.alloc (.cells #[.slice bA bl bc] 23);have hs3:((wi.alloc (.cells #[.int .i64 h] 3)).alloc (.cells #[.slice bA bl bc] 23)).heap.size=wi.heap.size+2:=(by simp);have hmk33:=HMK3.out.bel (bel_alloc _ (.cells #[.slice bA bl bc] 23));have hol:∀q,(us2 (h.toNat)).ownBlock=some q→w.heap.size+3≤q∧q<wi.heap.size:=fun q hq=>(HO2.out.gr.own h.toNat (by have:=HN.out;have:=HH.out;omega)).2.lt q hq;generalize ((wi.alloc (.cells #[.int .i64 h] 3)).alloc (.cells #[.slice bA bl bc] 23))=W3 at *;clear HAL KB7 HO3 HB53 HO2 HB5;generalize wi.heap.size=kb7 at *;have hhN:=HHN.out
     obtain⟨hN,hhe⟩:∃hN:Nat,h=(hN:Int):=⟨h.toNat,by omega⟩
     clear HHN hhN hhl;subst hhe;have hhl:hN<N+1:=(by have:=HN.out;have:=HH.out;omega);rw[Int.toNat_natCast]at hol
     obtain⟨U0,hU0⟩:∃U0:Nat→LI,U0=fun a=>rawL (p.rules.take ir) a++headL r.body (r.head.take k) a:=⟨_,rfl⟩
     have hj0:OfJ w (w.heap.size+3) (w.heap.size+2) (w.heap.size+1) (N+1) U0 hN kb5 kb7 #[.bool r.choice,.slice (some ⟨hb_,ho_,none⟩) hl hc,.bool r.sum,.int .i64 r.bound,.slice bA bl bc,.slice wA wl wc] Ds (kb7+2) ((w.heap.size+1)::(us2 hN).ownBlock.toList) [] W3:=
      ⟨⟨hmk33,fun D hD=>by have:=hmk33.lt hD;omega⟩,⟨us2,ls2,rfl,by rw[hU0];simpa using ho33,HOFF.out⟩,hb73,hb533⟩
     have hU0l:∀a,(U0 a).length≤2000000000000:=fun a=>by
      rw[hU0];have a1:=raw_len (p.rules.take ir) a (fun r hr=>HRB.out r (List.mem_of_mem_take hr));have a3:=HRB.out r (List.mem_of_getElem? HRI.out);have a2:=head_len r.body a3.2 (r.head.take k) a;rw[List.length_take]at a1 a2;have a4:=HFW.out;have a5:min ir p.rules.length≤40000:=(by omega);have a6:min k r.head.length≤4000:=(by omega);have a7:min ir p.rules.length*32000000≤40000*32000000:=Nat.mul_le_mul_right _ a5;have a8:min k r.head.length*8000≤4000*8000:=Nat.mul_le_mul_right _ a6;simp only[List.length_append];omega
     have hbw3:=ho33.bel
     obtain⟨HMK33,HB73,HCB,HO33,HB533,HOL,HU0,HJ0,HU0L,HBW3⟩:=Zq10 hmk33 hb73 hcb ho33 hb533 hol hU0 hj0 hU0l hbw3;clear hmk33 hb73 hcb ho33 hb533 hol hU0 hj0 hU0l hbw3
     refine wpIn_rangeM rfl (by omega) (gf:=134) (lb:=#[.pointer (some ⟨kb7+1,0,none⟩)]) rfl trivial (enters_of Tryz.func134 (by kernel_rfl) rfl)
      (pos1_iter 4 (by omega) (kb7+1) bA bl bc r.body ((w.heap.size+1)::(us2 hN).ownBlock.toList) W3
       (fun M W hM hk=>by
        have hoff:∀q∈M,w.heap.size≤q∧q≠kb7+1:=fun q hq=>by
         rcases hM q hq with h | h
         ·rcases List.mem_cons.1 h with rfl | h
          ·omega
          ·have:=HOL.out q (by simpa using h);omega
         ·omega
        exact⟨hk.cell (HCB.out.cell 0) (fun hq=>(hoff _ hq).2 rfl),(G3.out.ext HBW3.out).keptM hk (fun h0 ad e hq=>by
         have h1:=G3.out.blk_lt h0 e
         have:=hoff _ hq
         omega)⟩))
      (fun _ _ _ _ h=>by rw[h.1];rfl) (fun _ _ _ _ _ _ h _ _=>h) (OfJ w (w.heap.size+3) (w.heap.size+2) (w.heap.size+1) (N+1) U0 hN kb5 kb7 #[.bool r.choice,.slice (some ⟨hb_,ho_,none⟩) hl hc,.bool r.sum,.int .i64 r.bound,.slice bA bl bc,.slice wA wl wc] Ds (kb7+2)) (fun _ _ _=>False)
      (fun _ _ _ _ h hb=>h.bel hb) (fun _ _ _ _ h _=>h) (fun _ _ _ _ _ hk0 h hn hk=>h.keep (Nat.le_trans HBW3.out.size hk0) (by omega) hn hk) (fun _ _ _ _ _ _ h _ _=>h)
      (fun M pre W h=>h.cells hhl) HJ0.out
      (fun x args a' W=>args=#[.int .i64 x]∧a'={ tmps:=#[.agg #[.int .i64 (N:Int),.slice nA nl nc,.slice sA sl sc,.slice (some ⟨bb,off,none⟩) rl rc,.slice mA ml mc],.pointer (some ⟨w.heap.size,0,none⟩),.slice none 0 0,.pointer (some ⟨w.heap.size+1+1,0,none⟩),undef,.pointer (some ⟨kb5,0,none⟩),undef,.pointer (some ⟨kb7,0,none⟩),.int .i64 x,undef,.pointer (some ⟨w.heap.size,0,none⟩),.int .i64 (N:Int),.int .i64 ((N:Int)+1),.slice (some ⟨w.heap.size+1,0,none⟩) (N+1) (N+1),.pointer (some ⟨w.heap.size,3,none⟩),.slice (some ⟨bb,off,none⟩) rl rc,.int .i64 (rl:Int),.int .i64 (ir:Int),.bool true,.pointer (some ⟨bb,off+ir*6,none⟩),.agg #[.bool r.choice,.slice (some ⟨hb_,ho_,none⟩) hl hc,.bool r.sum,.int .i64 r.bound,.slice bA bl bc,.slice wA wl wc],.pointer (some ⟨kb5,1,none⟩),.slice (some ⟨hb_,ho_,none⟩) hl hc,.int .i64 (hl:Int),.int .i64 (k:Int),.bool true,.pointer (some ⟨hb_,ho_+k,none⟩),.int .i64 (hN:Int),.pointer (some ⟨kb5,4,none⟩),.slice bA bl bc,Value.func (Fn.func 134) #[] #[.pointer (some ⟨kb7+1,0,none⟩)],.int .i64 x,u32,u33,u34,u35,u36,u37,u38,u39,u40,u41,u42,u43,undef,undef,undef,undef,undef,undef,undef,undef,undef,undef,undef,undef,undef,undef,undef,undef,undef,undef,undef,undef],defers:=[] })
      (fun _ _ _ _ _ _ h _ _=>h)
      ?assign ?body ?done ?stop
     case assign=>
      intro l M pre x args W K hi hg hK
      obtain⟨rfl,h64⟩:=hg
      obtain⟨HI,H64⟩:=Zq2 hi h64;clear hi h64
      gi_wp2;exact hK _ _ (Below.refl _ _) ⟨trivial,rfl⟩
     case body=>
      rintro l M pre x args a' W ⟨hmkW,⟨us,ls,rfl,hos,hoff2⟩,hb7,hb5⟩ hpf ⟨rfl,x64⟩ ⟨-,rfl⟩;have hTc:∀q∈((w.heap.size+1)::(us hN).ownBlock.toList),∃o,W.heap[q]? = some o∧o.isCells=true:=(OfJ.mk hmkW ⟨us,ls,rfl,hos,hoff2⟩ hb7 hb5:OfJ w (w.heap.size+3) (w.heap.size+2) (w.heap.size+1) (N+1) U0 hN kb5 kb7 #[.bool r.choice,.slice (some ⟨hb_,ho_,none⟩) hl hc,.bool r.sum,.int .i64 r.bound,.slice bA bl bc,.slice wA wl wc] Ds (kb7+2) _ pre W).cells hhl;have hgbx:=hos.bx;have hblw:=hos.bel;have hsz:=hos.sz;have hol2:∀q∈(us hN).ownBlock.toList,w.heap.size+3≤q:=fun q hq=>((hos.gr.own hN hhl).2.lt q (by simpa using hq)).1
      have hlb:(U0 hN++pre).length≤2000000100000:=by
       have a1:=HU0L.out hN;have a2:=hpf.length_le;have a3:=(HRB.out r (List.mem_of_getElem? HRI.out)).2;have a4:(psL r.body).length≤r.body.length:=List.length_filter_le _ _;rw[List.length_append]at a2;rw[List.length_append];omega
      have q0:(0:Int)≤(hN:Int):=(by omega);have q1:(hN:Int)<(N:Int)+1:=(by omega);have hb7l:=hb7.lt
      have hb5n:(us hN).ownBlock≠some kb5:=fun e=>by
       obtain⟨cs,hc⟩:=ownI_blk (hos.gr.own hN hhl) e
       have:=(show W.heap[kb5]? = _ from hb5).symm.trans hc
       injection this with this;injection this with _ h2;exact absurd h2 (by decide)
      clear HOFF HOL;have HOFF:=Zq1 hoff2;have HOL:=Zq1 hol2;clear hoff2 hol2
      obtain⟨HOS,HB7,HB5,HPF,X64,HGBX,HBLW,HSZ,HLB,HB7L,HB5N,HMKW⟩:=Zq12 hos hb7 hb5 hpf x64 hgbx hblw hsz hlb hb7l hb5n hmkW;clear hos hb7 hb5 hpf x64 hgbx hblw hsz hlb hb7l hb5n hmkW
      have HTC:=Zq1 hTc;clear hTc;gi_wp2_with fail;refine wpIn_region_inv (fun listed a' w'=>∃(b0 b1 b2 b3 b4 b5 b6 b7 b8 b9 b10:Bool) (u32 u33 u34 u35 u36 u37 u38 u39 u40 u41:Value),listed=#[b0,b1,b2,b3,b4,b5,b6,b7,b8,b9,b10]∧a'={ tmps:=#[.agg #[.int .i64 (N:Int),.slice nA nl nc,.slice sA sl sc,.slice (some ⟨bb,off,none⟩) rl rc,.slice mA ml mc],.pointer (some ⟨w.heap.size,0,none⟩),.slice none 0 0,.pointer (some ⟨w.heap.size+1+1,0,none⟩),undef,.pointer (some ⟨kb5,0,none⟩),undef,.pointer (some ⟨kb7,0,none⟩),.int .i64 x,undef,.pointer (some ⟨w.heap.size,0,none⟩),.int .i64 (N:Int),.int .i64 ((N:Int)+1),.slice (some ⟨w.heap.size+1,0,none⟩) (N+1) (N+1),.pointer (some ⟨w.heap.size,3,none⟩),.slice (some ⟨bb,off,none⟩) rl rc,.int .i64 (rl:Int),.int .i64 (ir:Int),.bool true,.pointer (some ⟨bb,off+ir*6,none⟩),.agg #[.bool r.choice,.slice (some ⟨hb_,ho_,none⟩) hl hc,.bool r.sum,.int .i64 r.bound,.slice bA bl bc,.slice wA wl wc],.pointer (some ⟨kb5,1,none⟩),.slice (some ⟨hb_,ho_,none⟩) hl hc,.int .i64 (hl:Int),.int .i64 (k:Int),.bool true,.pointer (some ⟨hb_,ho_+k,none⟩),.int .i64 (hN:Int),.pointer (some ⟨kb5,4,none⟩),.slice bA bl bc,Value.func (Fn.func 134) #[] #[.pointer (some ⟨kb7+1,0,none⟩)],.int .i64 x,u32,u33,u34,u35,u36,u37,u38,u39,u40,u41,u42,u43,undef,undef,undef,undef,undef,undef,undef,undef,undef,undef,undef,undef,undef,undef,undef,undef,undef,undef,undef,undef],defers:=[] }∧(Kept ((w.heap.size+1)::(us hN).ownBlock.toList) W w')∧(Blk w' (w.heap.size+2) 91 #[.slice (some ⟨w.heap.size+1,0,none⟩) (N+1) (N+1)]∧Blk w' kb7 3 #[.int .i64 (hN:Int)])∧(b8=false→OfS w (w.heap.size+3) (w.heap.size+2) (w.heap.size+1) (N+1) w' (fun a=>U0 a++if hN=a then pre else[]) us ls)∧(b8=true→b10=false→∃Wa l',OfS w (w.heap.size+3) (w.heap.size+2) (w.heap.size+1) (N+1) Wa (fun a=>U0 a++if hN=a then pre else[]) us ls∧OwnI w' (w.heap.size+3) u40 l' ((U0 hN++if hN=hN then pre else[])++[x])∧Wa.grownBy w' (us hN).ownBlock∧(∀k,u40.ownBlock=some k→(us hN).ownBlock=some k∨Wa.heap.size≤k)∧W.heap.size≤Wa.heap.size)∧(b10=true→∃l',OfS w (w.heap.size+3) (w.heap.size+2) (w.heap.size+1) (N+1) w' (updG (fun a=>U0 a++if hN=a then pre else[]) hN ((U0 hN++if hN=hN then pre else[])++[x])) (fun j=>if j=hN then u40 else us j) (fun j=>if j=hN then l' else ls j)∧∀k,u40.ownBlock=some k→(us hN).ownBlock=some k∨W.heap.size≤k)∧(b0=true→u32=.slice (some ⟨w.heap.size+1,0,none⟩) (N+1) (N+1))∧(b1=true→u33=.int .i64 (hN:Int))∧(b2=true→u34=.slice (some ⟨w.heap.size+1,0,none⟩) (N+1) (N+1))∧(b3=true→u35=.int .i64 (hN:Int))∧(b4=true→u36=.pointer (some ⟨w.heap.size+1,hN,none⟩))∧(b5=true→u37=us hN)∧(b6=true→u38=.int .i64 x)∧(b7=true→∃q,u39=.slice (some ⟨q,0,none⟩) 1 1∧(b8=false→Blk w' q 3 #[.int .i64 x]))∧(b9=true→u41=.pointer (some ⟨w.heap.size+1,hN,none⟩))∧(b10=true→b8=true)∧(b8=true→b7=true∧b5=true)) (by kernel_rfl) ?start ?step ?_
      case start=>exact⟨false,false,false,false,false,false,false,false,false,false,false,_,_,_,_,_,_,_,_,_,_,rfl,rfl,(Kept.refl _ _).drew,⟨HGBX.out.drew,HB7.out.drew⟩,(fun _=>HOS.out.ext ((Below.refl _ _).drew)),(by simp),(by simp),(by simp),(by simp),(by simp),(by simp),(by simp),(by simp),(by simp),(by simp),(by simp),(by simp),(by simp)⟩
      case step=>
       rintro listed a' w' i o ⟨b0,b1,b2,b3,b4,b5,b6,b7,b8,b9,b10,u32,u33,u34,u35,u36,u37,u38,u39,u40,u41,rfl,rfl,hk0,fC,fG,fA,fE,f0,f1,f2,f3,f4,f5,f6,f7,f9,c10,c8⟩ ho hli hd K hK;have Zqx:=fun i h=>hd ⟨i,.data⟩ h rfl
       match i,ho,hli,hd with
       |0,ho,hli,hd=>obtain⟨rfl,rfl⟩:_∧b0=false:=Zqj ho hli;have hm:w'.cell? ⟨w.heap.size+1+1,0,none⟩=some (.slice (some ⟨w.heap.size+1,0,none⟩) (N+1) (N+1)):=fC.1.cell 0;go_simp;exact hK _ _ ⟨_,_,_,_,_,_,_,_,_,_,_,_,_,_,_,_,_,_,_,_,_,rfl,rfl,hk0,fC,fG,fA,fE,(fun _=>rfl),f1,f2,f3,f4,f5,f6,f7,f9,c10,c8⟩
       |1,ho,hli,hd=>obtain⟨rfl,rfl⟩:_∧b1=false:=Zqj ho hli;have hm:w'.cell? ⟨kb7,0,none⟩=some (.int .i64 (hN:Int)):=fC.2.cell 0;go_simp;exact hK _ _ ⟨_,_,_,_,_,_,_,_,_,_,_,_,_,_,_,_,_,_,_,_,_,rfl,rfl,hk0,fC,fG,fA,fE,f0,(fun _=>rfl),f2,f3,f4,f5,f6,f7,f9,c10,c8⟩
       |2,ho,hli,hd=>obtain⟨rfl,rfl⟩:_∧b2=false:=Zqj ho hli;have hm:w'.cell? ⟨w.heap.size+1+1,0,none⟩=some (.slice (some ⟨w.heap.size+1,0,none⟩) (N+1) (N+1)):=fC.1.cell 0;go_simp;exact hK _ _ ⟨_,_,_,_,_,_,_,_,_,_,_,_,_,_,_,_,_,_,_,_,_,rfl,rfl,hk0,fC,fG,fA,fE,f0,f1,(fun _=>rfl),f3,f4,f5,f6,f7,f9,c10,c8⟩
       |3,ho,hli,hd=>obtain⟨rfl,rfl⟩:_∧b3=false:=Zqj ho hli;have hm:w'.cell? ⟨kb7,0,none⟩=some (.int .i64 (hN:Int)):=fC.2.cell 0;go_simp;exact hK _ _ ⟨_,_,_,_,_,_,_,_,_,_,_,_,_,_,_,_,_,_,_,_,_,rfl,rfl,hk0,fC,fG,fA,fE,f0,f1,f2,(fun _=>rfl),f4,f5,f6,f7,f9,c10,c8⟩
       |4,ho,hli,hd=>obtain⟨rfl,rfl⟩:_∧b4=false:=Zqj ho hli;obtain rfl:b2=true:=Zqx 2 (by simp);obtain rfl:b3=true:=Zqx 3 (by simp);obtain rfl:=f2 rfl;obtain rfl:=f3 rfl;go_simp;exact hK _ _ ⟨_,_,_,_,_,_,_,_,_,_,_,_,_,_,_,_,_,_,_,_,_,rfl,rfl,hk0,fC,fG,fA,fE,f0,f1,f2,f3,(fun _=>rfl),f5,f6,f7,f9,c10,c8⟩
       |5,ho,hli,hd=>
        obtain⟨rfl,rfl⟩:_∧b5=false:=Zqj ho hli;obtain rfl:b4=true:=Zqx 4 (by simp);obtain rfl:=f4 rfl
        have e8:b8=false:=by
         cases hh:b8 with
         |false=>rfl
         |true=>have:=(c8 hh).2;cases this
        subst e8;have hm:w'.cell? ⟨w.heap.size+1,hN,none⟩=some (us hN):=(fG rfl).gr.cell hhl;go_simp;exact hK _ _ ⟨_,_,_,_,_,_,_,_,_,_,_,_,_,_,_,_,_,_,_,_,_,rfl,rfl,hk0,fC,fG,fA,fE,f0,f1,f2,f3,f4,(fun _=>rfl),f6,f7,f9,c10,(fun e=>by cases e)⟩
       |6,ho,hli,hd=>obtain⟨rfl,rfl⟩:_∧b6=false:=Zqj ho hli;go_simp;exact hK _ _ ⟨_,_,_,_,_,_,_,_,_,_,_,_,_,_,_,_,_,_,_,_,_,rfl,rfl,hk0,fC,fG,fA,fE,f0,f1,f2,f3,f4,f5,(fun _=>rfl),f7,f9,c10,c8⟩
       |7,ho,hli,hd=>
        obtain⟨rfl,rfl⟩:_∧b7=false:=Zqj ho hli;obtain rfl:b6=true:=Zqx 6 (by simp);obtain rfl:=f6 rfl
        have e8:b8=false:=by
         cases hh:b8 with
         |false=>rfl
         |true=>have:=(c8 hh).1;cases this
        subst e8
        have e10:b10=false:=by
         cases hh:b10 with
         |false=>rfl
         |true=>have:=c10 hh;cases this
        subst e10;have hb:=bel_alloc w' (.cells #[.int .i64 x] 3);have hk:=Kept.of_below hb ((w.heap.size+1)::(us hN).ownBlock.toList);go_simp;exact hK _ _ ⟨_,_,_,_,_,_,_,_,_,_,_,_,_,_,_,_,_,_,_,_,_,rfl,rfl,(hk0.trans hk),⟨fC.1.bel hb,fC.2.bel hb⟩,(fun e=>(fG e).ext hb),(fun e=>by cases e),(fun e=>by cases e),f0,f1,f2,f3,f4,f5,f6,(fun _=>⟨_,rfl,fun _=>blk_new rfl _ _⟩),f9,c10,(fun e=>by cases e)⟩
       |8,ho,hli,hd=>
        obtain⟨rfl,rfl⟩:_∧b8=false:=Zqj ho hli;obtain rfl:b5=true:=Zqx 5 (by simp);obtain rfl:b7=true:=Zqx 7 (by simp);obtain rfl:=f5 rfl
        obtain⟨q,rfl,hq⟩:=f7 rfl
        have e10:b10=false:=by
         cases hh:b10 with
         |false=>rfl
         |true=>have:=c10 hh;cases this
        subst e10;have ho:=fG rfl;have hl1:ls hN=(U0 hN++pre).length:=(by have:=(ho.gr.own hN hhl).1;simpa using this);have hbd:ls hN+1≤17592186044416:=(by have:=HLB.out;omega)
        obtain⟨v',w3,hrun,hown,hg,hat⟩:=appS (ho.gr.own hN hhl) (sl_one' (hq rfl) X64.out) hbd ho.sz 23
        have hk:Kept ((w.heap.size+1)::(us hN).ownBlock.toList) w' w3:=(Kept.refl _ _).grown hg (fun k hk=>.inl (List.mem_cons_of_mem _ (by simp[hk])));refine step_appVIn (by rfl) _ _ 23 (by rfl) (by rfl) (by rfl) hrun ?_;exact hK _ _ ⟨_,_,_,_,_,_,_,_,_,_,_,_,_,_,_,_,_,_,_,_,_,rfl,rfl,(hk0.trans hk),⟨fC.1.grown hg (fun e=>by have:=((ho.gr.own hN hhl).2.lt _ e.symm).1;omega),fC.2.grown hg (fun e=>HOFF.out hN hhl kb7 e.symm rfl)⟩,(fun e=>by cases e),(fun _ _=>⟨w',_,ho,hown,hg,hat,hk0.size⟩),(fun e=>by cases e),f0,f1,f2,f3,f4,f5,f6,(fun _=>⟨q,rfl,fun e=>by cases e⟩),f9,(fun e=>by cases e),(fun _=>⟨rfl,rfl⟩)⟩
       |9,ho,hli,hd=>obtain⟨rfl,rfl⟩:_∧b9=false:=Zqj ho hli;obtain rfl:b0=true:=Zqx 0 (by simp);obtain rfl:b1=true:=Zqx 1 (by simp);obtain rfl:=f0 rfl;obtain rfl:=f1 rfl;go_simp;exact hK _ _ ⟨_,_,_,_,_,_,_,_,_,_,_,_,_,_,_,_,_,_,_,_,_,rfl,rfl,hk0,fC,fG,fA,fE,f0,f1,f2,f3,f4,f5,f6,f7,(fun _=>rfl),c10,c8⟩
       |10,ho,hli,hd=>
        obtain⟨rfl,rfl⟩:_∧b10=false:=Zqj ho hli;obtain rfl:b8=true:=Zqx 8 (by simp);obtain rfl:b9=true:=Zqx 9 (by simp);obtain rfl:=f9 rfl
        obtain⟨Wa,l',ha1,ha2,ha3,ha4,ha5⟩:=fA rfl rfl
        obtain⟨A,l2,c,rfl⟩:=ha2.shape
        have hub:Blk w' (w.heap.size+1) 23 (valCells (N+1) us):=ha1.gr.blk.grown ha3 (fun e=>by have:=((ha1.gr.own hN hhl).2.lt _ e.symm).1;omega);have hm:w'.cell? ⟨w.heap.size+1,hN,none⟩=some (us hN):=(by rw[hub.cell,valCells_get _ _ _ hhl]);have hz:=hub.frozen hN;have hgr:=ha1.gr.app (by omega) hhl ha2 ha3 ha4;have hk:Kept ((w.heap.size+1)::(us hN).ownBlock.toList) w' (w'.setCell ⟨w.heap.size+1,hN,none⟩ (.slice A l2 c)):=(Kept.refl _ _).set (.inl (by simp)) _;have HCC:=Zq1 c8;clear c8;go_simp;exact hK _ _ ⟨_,_,_,_,_,_,_,_,_,_,_,_,_,_,_,_,_,_,_,_,_,rfl,rfl,(hk0.trans hk),⟨fC.1.far (by simp) _,fC.2.far (by simp;omega) _⟩,(fun e=>by cases e),(fun _ e=>by cases e),(fun _=>⟨l',⟨hgr,fC.1.far (by simp) _,Kept.below HBLW.out (hk0.trans hk) HBLW.out.size (fun k hk=>(List.mem_cons.1 hk).elim (fun e=>by omega) (fun h=>by have:=HOL.out k h;omega)),by have:=(hk0.trans hk).size;have:=HSZ.out;omega,by omega⟩,fun k hk=>(ha4 k hk).imp id fun q=>Nat.le_trans ha5 q⟩),f0,f1,f2,f3,f4,f5,f6,(fun e=>by obtain⟨q,e1,-⟩:=f7 e;exact⟨q,e1,fun e=>by cases e⟩),f9,(fun _=>rfl),HCC.out⟩
       |i+11,ho,hli,hd=>simp at ho
      rintro listed a' w' ⟨b0,b1,b2,b3,b4,b5,b6,b7,b8,b9,b10,u32,u33,u34,u35,u36,u37,u38,u39,u40,u41,rfl,rfl,hk0,fC,fG,fA,fE,f0,f1,f2,f3,f4,f5,f6,f7,f9,c10,c8⟩ hr;obtain rfl:b0=true:=Zqn hr 0 rfl;obtain rfl:b1=true:=Zqn hr 1 rfl;obtain rfl:b2=true:=Zqn hr 2 rfl;obtain rfl:b3=true:=Zqn hr 3 rfl;obtain rfl:b4=true:=Zqn hr 4 rfl;obtain rfl:b5=true:=Zqn hr 5 rfl;obtain rfl:b6=true:=Zqn hr 6 rfl;obtain rfl:b7=true:=Zqn hr 7 rfl;obtain rfl:b8=true:=Zqn hr 8 rfl;obtain rfl:b9=true:=Zqn hr 9 rfl;obtain rfl:b10=true:=Zqn hr 10 rfl;clear hr
      obtain⟨l',hE,hv⟩:=fE rfl
      have hk7:=fC.2;clear fC fG fA f0 f1 f2 f3 f4 f5 f6 f7 f9 c10 c8
      have hfn:updG (fun a=>U0 a++if hN=a then pre else[]) hN ((U0 hN++if hN=hN then pre else[])++[x])=fun a=>U0 a++if hN=a then pre++[x]else[]:=by
       funext a
       unfold updG
       by_cases e:a=hN
       ·subst e;simp
       ·have e2:¬hN=a:=fun k=>e k.symm;simp[e,e2]
      rw[hfn]at hE
      have hj2:OfJ w (w.heap.size+3) (w.heap.size+2) (w.heap.size+1) (N+1) U0 hN kb5 kb7 #[.bool r.choice,.slice (some ⟨hb_,ho_,none⟩) hl hc,.bool r.sum,.int .i64 r.bound,.slice bA bl bc,.slice wA wl wc] Ds (kb7+2) ((w.heap.size+1)::u40.ownBlock.toList) (pre++[x]) w':=
       ⟨⟨HMKW.out.1.kept hk0 HTC.out,HMKW.out.2⟩,⟨_,_,by simp,hE,fun a ha q hq=>by
        by_cases e:a=hN
        ·subst e;simp only[if_true]at hq;rcases hv q hq with h | h
         ·exact HOFF.out a ha q h
         ·have:=HB7L.out;omega
        ·simp only[e,if_false]at hq;exact HOFF.out a ha q hq⟩,hk7,hk0.blk HB5.out (by simp;exact⟨by omega,fun h=>by have:=HB5N.out;exact this h⟩)⟩
      have HJ2:=Zq1 hj2;clear hj2 hE
      have hmm:∀q∈((w.heap.size+1)::u40.ownBlock.toList),q∈((w.heap.size+1)::(us hN).ownBlock.toList)∨W.heap.size≤q:=fun q hq=>by
       rcases List.mem_cons.1 hq with rfl | hq
       ·exact .inl (by simp)
       ·rcases hv q (by simpa using hq)with h | h
        ·exact .inl (List.mem_cons_of_mem _ (by simp[h]))
        ·exact .inr h
      obtain⟨HK0,HMM⟩:=Zq2 hk0 hmm;clear hk0 hmm
      gi_wp2_with fail
      exact⟨_,HJ2.out,HK0.out,HMM.out⟩
     case done=>
      intro D M W hD hj hdf;have hn:∀o,W.heap[D]? = some o→o.isCells=false:=fun o h=>by rw[hdf]at h;cases h;rfl
      have HDF:=Zq1 hdf;clear hdf
      obtain⟨us',ls',e',o',-⟩:=hj.ex
      have hb5':=hj.kb5;have hmk':Mks w W (D::Ds):=⟨List.nodup_cons.2 ⟨fun h=>by have:=hj.mks.2 D h;omega,hj.mks.1.nd⟩,fun E hE=>(List.mem_cons.1 hE).elim (fun e=>by subst e;exact⟨Nat.le_trans HBW3.out.size hD,HDF.out⟩) (fun h=>hj.mks.1.m E h)⟩
      have hUe:(fun a=>U0 a++if hN=a then psL r.body else[])=fun a=>rawL (p.rules.take ir) a++headL r.body (r.head.take (k+1)) a:=by
       funext a
       rw[HU0.out,headL_snoc HHK.out a,List.append_assoc]
       congr 2
       by_cases e:hN=a
       ·rw[if_pos e,if_pos (by omega)]
       ·rw[if_neg e,if_neg (by omega)]
      rw[hUe]at o';clear e' hj
      obtain⟨HN,O',HB5',HUE,HMK'⟩:=Zq5 hn o' hb5' hUe hmk';clear hn o' hb5' hUe hmk'
      gi_wp2_with fail
      refine⟨⟨_,_,_,_,_,_,_,_,_,_,_,_,_,_,_,_,_,_,_,_,D::Ds,k+1,us',ls',⟨by omega,by go_num,O'.out,HB5'.out,HMK'.out⟩,rfl⟩,?_⟩
      simp[intOf];omega
     case stop=>
      intro D c pre W hD hpre hx;exact hx.elim
    ·obtain rfl:hl=k:=(by omega)
     have hU:(fun a=>rawL (p.rules.take ir) a++headL r.body (r.head.take hl) a)=fun a=>rawL (p.rules.take (ir+1)) a:=by
      funext a
      rw[rawL_snoc HRI.out a,List.take_of_length_le (show r.head.length≤hl by have:=G1.out.len;omega)]
     rw[hU]at ho2
     obtain⟨HO2,HB5,HU,HMK2⟩:=Zq4 ho2 hb5 hU hmk2;clear ho2 hb5 hU hmk2
     gi_wp2_with fail
     refine⟨⟨_,_,_,_,_,_,_,_,_,_,_,_,_,_,_,_,_,_,_,_,_,_,_,_,_,_,_,_,_,Ds,ir+1,us2,ls2,⟨by omega,by go_num,HO2.out,HMK2.out⟩,rfl⟩,?_⟩
     simp[intOf];omega
  ·obtain rfl:rl=ir:=(by omega);rw[List.take_of_length_le (by have:=HRL.out;omega)]at ho;have hbx0:wo.cell? ⟨w.heap.size+1+1,0,none⟩=some (.slice (some ⟨w.heap.size+1,0,none⟩) (N+1) (N+1)):=ho.bx.cell 0
   have hrl0:∀a,(rawL p.rules a).length≤2000000000000:=fun a=>by
    have a1:=raw_len p.rules a HRB.out;have a7:p.rules.length*32000000≤40000*32000000:=Nat.mul_le_mul_right _ HFW.out;omega
   obtain⟨HO,HMK,HRL0⟩:=Zq3 ho hmk hrl0;clear ho hmk hrl0
   gi_wp2_with fail;gi_loopw [46] (fun t wr=>∃(k:Nat) (us:Nat→Value) (ls:Nat→Nat),k≤N+1∧t=.int .i64 (k:Int)∧OfS w (w.heap.size+3) (w.heap.size+2) (w.heap.size+1) (N+1) wr (fun a=>if a<k then Lib.compact (sortZ (rawL p.rules a))else rawL p.rules a) us ls∧Mks w wr Ds) (fun t _=>N+1-(intOf t).toNat)
   case atStart=>exact⟨0,_,_,Nat.zero_le _,rfl,by simpa using HO.out,HMK.out⟩
   case round=>
    obtain⟨k,us3,ls3,hk,rfl,ho3,hmk3⟩:=hrel
    obtain⟨wi,rfl⟩:∃wi:World,wi=wr:=⟨_,rfl⟩
    by_cases hlk:k<N+1
    ·have j0:(0:Int)≤(k:Int):=(by omega);have j1:(k:Int)<(N:Int)+1:=(by omega);have hb0:wi.cell? ⟨w.heap.size+1+1,0,none⟩=some (.slice (some ⟨w.heap.size+1,0,none⟩) (N+1) (N+1)):=ho3.bx.cell 0;have hb1:wi.cell? ⟨w.heap.size+1,k,none⟩=some (us3 k):=ho3.gr.cell hlk;have hown:=ho3.gr.own k hlk;simp only[show ¬k<k by omega,if_false]at hown;have hl1:ls3 k=(rawL p.rules k).length:=hown.1;have hl2:ls3 k≤17592186044416:=(by have:=HRL0.out k;omega)
     obtain⟨HO3,HMK3,HOWN,HL1⟩:=Zq4 ho3 hmk3 hown hl1;clear ho3 hmk3 hown hl1
     gi_wp2_with fail
     refine⟨trivial,?_⟩
     refine(callsIn_wide.2 (sortI_any HOWN.out hl2)).mono ?_
     rintro e w1 ⟨rfl,hso,hg1⟩;have ho4:=HO3.out.same hlk hso hg1;have hmk4:=HMK3.out.grown HOWN.out hg1;clear hb0 hb1;have hb0:w1.cell? ⟨w.heap.size+1+1,0,none⟩=some (.slice (some ⟨w.heap.size+1,0,none⟩) (N+1) (N+1)):=ho4.bx.cell 0;have hbxx:=ho4.bx;have hbl1:=ho4.bel;have hsz1:=ho4.sz;have hol1:∀q,(us3 k).ownBlock=some q→w.heap.size+3≤q:=fun q hq=>((ho4.gr.own k hlk).2.lt q hq).1;have hcl:=Lib.compact_length_le (sortZ (rawL p.rules k));have hsl:(sortZ (rawL p.rules k)).length≤2000000000000:=(by rw[(sortZ_perm _).length_eq];exact HRL0.out k)
     obtain⟨VV,hVV⟩:∃VV,VV=updG (fun a=>if a<k then Lib.compact (sortZ (rawL p.rules a))else rawL p.rules a) k ((rawL p.rules k).mergeSort fun x y=>decide (x≤y)):=⟨_,rfl⟩
     obtain⟨ls4,hls4⟩:∃ls4,ls4=(fun j=>if j=k then ls3 k else ls3 j):=⟨_,rfl⟩
     rw[← hVV,← hls4]at ho4;have hvk:VV k=sortZ (rawL p.rules k):=(by rw[hVV];simp[updG];rfl)
     obtain⟨HO4,HMK4,HSO,HG1,HBXX,HBL1,HSZ1,HOL1,HCL,HSL,HVV,HLS4⟩:=Zq12 ho4 hmk4 hso hg1 hbxx hbl1 hsz1 hol1 hcl hsl hVV hls4;clear ho4 hmk4 hso hg1 hbxx hbl1 hsz1 hol1 hcl hsl hVV hls4
     have HVK:=Zq1 hvk;clear hvk;gi_wp2_with fail;refine wpIn_region_inv (fun listed a' w'=>∃(b0 b1 b2 b3 b4 b5 b6 b7 b8:Bool) (u54 u55 u56 u57 u58 u59 u60 u61:Value),listed=#[b0,b1,b2,b3,b4,b5,b6,b7,b8]∧a'={ tmps:=#[.agg #[.int .i64 (N:Int),.slice nA nl nc,.slice sA sl sc,.slice rA rl rc,.slice mA ml mc],.pointer (some ⟨w.heap.size,0,none⟩),.slice none 0 0,.pointer (some ⟨w.heap.size+1+1,0,none⟩),undef,u5,undef,u7,u8,.int .i64 (k:Int),.pointer (some ⟨w.heap.size,0,none⟩),.int .i64 (N:Int),.int .i64 ((N:Int)+1),.slice (some ⟨w.heap.size+1,0,none⟩) (N+1) (N+1),.pointer (some ⟨w.heap.size,3,none⟩),.slice rA rl rc,.int .i64 (rl:Int),.int .i64 (rl:Int),.bool false,u19,u20,u21,u22,u23,u24,u25,u26,u27,u28,u29,u30,undef,u32,u33,u34,u35,u36,u37,u38,u39,u40,u41,u42,u43,.slice (some ⟨w.heap.size+1,0,none⟩) (N+1) (N+1),.int .i64 ((N:Int)+1),.int .i64 (k:Int),.bool true,.int .i64 (k:Int),.slice (some ⟨w.heap.size+1,0,none⟩) (N+1) (N+1),.int .i64 (k:Int),.pointer (some ⟨w.heap.size+1,k,none⟩),us3 k,Value.tuple #[],u54,u55,u56,u57,u58,u59,u60,u61,u62,undef],defers:=Ds.map mkD }∧(Kept ((w.heap.size+1)::(us3 k).ownBlock.toList) w1 w')∧(Blk w' (w.heap.size+2) 91 #[.slice (some ⟨w.heap.size+1,0,none⟩) (N+1) (N+1)])∧(b6=false→OfS w (w.heap.size+3) (w.heap.size+2) (w.heap.size+1) (N+1) w' VV us3 ls4∧Mks w w' Ds)∧(b6=true→b8=false→∃Wa l',OfS w (w.heap.size+3) (w.heap.size+2) (w.heap.size+1) (N+1) Wa VV us3 ls4∧Mks w Wa Ds∧OwnI w' (w.heap.size+3) u60 l' (Lib.compact (sortZ (rawL p.rules k)))∧Wa.grownBy w' (us3 k).ownBlock∧u60.ownBlock=(us3 k).ownBlock∧w1.heap.size≤Wa.heap.size)∧(b8=true→∃us' ls',OfS w (w.heap.size+3) (w.heap.size+2) (w.heap.size+1) (N+1) w' (updG VV k (Lib.compact (sortZ (rawL p.rules k)))) us' ls'∧Mks w w' Ds)∧(b0=true→u54=.slice (some ⟨w.heap.size+1,0,none⟩) (N+1) (N+1))∧(b1=true→u55=.int .i64 (k:Int))∧(b2=true→u56=.slice (some ⟨w.heap.size+1,0,none⟩) (N+1) (N+1))∧(b3=true→u57=.int .i64 (k:Int))∧(b4=true→u58=.pointer (some ⟨w.heap.size+1,k,none⟩))∧(b5=true→u59=us3 k)∧(b7=true→u61=.pointer (some ⟨w.heap.size+1,k,none⟩))∧(b8=true→b6=true)∧(b6=true→b5=true)) (by kernel_rfl) ?start ?step ?_
     case start=>exact⟨false,false,false,false,false,false,false,false,false,_,_,_,_,_,_,_,_,rfl,rfl,(Kept.refl _ _).drew,HBXX.out.drew,(fun _=>⟨HO4.out.ext ((Below.refl _ _).drew),HMK4.out.bel ((Below.refl _ _).drew)⟩),(by simp),(by simp),(by simp),(by simp),(by simp),(by simp),(by simp),(by simp),(by simp),(by simp),(by simp)⟩
     case step=>
      rintro listed a' w' i o ⟨b0,b1,b2,b3,b4,b5,b6,b7,b8,u54,u55,u56,u57,u58,u59,u60,u61,rfl,rfl,hk0,fC,fG,fA,fE,f0,f1,f2,f3,f4,f5,f7,c8,c6⟩ ho hli hd K hK;have Zqx:=fun i h=>hd ⟨i,.data⟩ h rfl
      match i,ho,hli,hd with
      |0,ho,hli,hd=>obtain⟨rfl,rfl⟩:_∧b0=false:=Zqj ho hli;have hm:w'.cell? ⟨w.heap.size+1+1,0,none⟩=some (.slice (some ⟨w.heap.size+1,0,none⟩) (N+1) (N+1)):=fC.cell 0;go_simp;exact hK _ _ ⟨_,_,_,_,_,_,_,_,_,_,_,_,_,_,_,_,_,rfl,rfl,hk0,fC,fG,fA,fE,(fun _=>rfl),f1,f2,f3,f4,f5,f7,c8,c6⟩
      |1,ho,hli,hd=>obtain⟨rfl,rfl⟩:_∧b1=false:=Zqj ho hli;go_simp;exact hK _ _ ⟨_,_,_,_,_,_,_,_,_,_,_,_,_,_,_,_,_,rfl,rfl,hk0,fC,fG,fA,fE,f0,(fun _=>rfl),f2,f3,f4,f5,f7,c8,c6⟩
      |2,ho,hli,hd=>obtain⟨rfl,rfl⟩:_∧b2=false:=Zqj ho hli;have hm:w'.cell? ⟨w.heap.size+1+1,0,none⟩=some (.slice (some ⟨w.heap.size+1,0,none⟩) (N+1) (N+1)):=fC.cell 0;go_simp;exact hK _ _ ⟨_,_,_,_,_,_,_,_,_,_,_,_,_,_,_,_,_,rfl,rfl,hk0,fC,fG,fA,fE,f0,f1,(fun _=>rfl),f3,f4,f5,f7,c8,c6⟩
      |3,ho,hli,hd=>obtain⟨rfl,rfl⟩:_∧b3=false:=Zqj ho hli;go_simp;exact hK _ _ ⟨_,_,_,_,_,_,_,_,_,_,_,_,_,_,_,_,_,rfl,rfl,hk0,fC,fG,fA,fE,f0,f1,f2,(fun _=>rfl),f4,f5,f7,c8,c6⟩
      |4,ho,hli,hd=>obtain⟨rfl,rfl⟩:_∧b4=false:=Zqj ho hli;obtain rfl:b2=true:=Zqx 2 (by simp);obtain rfl:b3=true:=Zqx 3 (by simp);obtain rfl:=f2 rfl;obtain rfl:=f3 rfl;go_simp;exact hK _ _ ⟨_,_,_,_,_,_,_,_,_,_,_,_,_,_,_,_,_,rfl,rfl,hk0,fC,fG,fA,fE,f0,f1,f2,f3,(fun _=>rfl),f5,f7,c8,c6⟩
      |5,ho,hli,hd=>
       obtain⟨rfl,rfl⟩:_∧b5=false:=Zqj ho hli;obtain rfl:b4=true:=Zqx 4 (by simp);obtain rfl:=f4 rfl
       have e6:b6=false:=by
        cases hh:b6 with
        |false=>rfl
        |true=>have:=c6 hh;cases this
       subst e6;have hm:w'.cell? ⟨w.heap.size+1,k,none⟩=some (us3 k):=(fG rfl).1.gr.cell hlk;go_simp;exact hK _ _ ⟨_,_,_,_,_,_,_,_,_,_,_,_,_,_,_,_,_,rfl,rfl,hk0,fC,fG,fA,fE,f0,f1,f2,f3,f4,(fun _=>rfl),f7,c8,(fun e=>by cases e)⟩
      |6,ho,hli,hd=>
       obtain⟨rfl,rfl⟩:_∧b6=false:=Zqj ho hli;obtain rfl:b5=true:=Zqx 5 (by simp);obtain rfl:=f5 rfl
       have e8:b8=false:=by
        cases hh:b8 with
        |false=>rfl
        |true=>have:=c8 hh;cases this
       subst e8
       obtain⟨ho,hmk⟩:=fG rfl
       have hown:=ho.gr.own k hlk;rw[HVK.out]at hown;have hlb:ls4 k≤17592186044416:=(by have:=hown.1;have:=HSL.out;omega);go_simp
       refine⟨trivial,?_⟩
       refine(callsIn_wide.2 (compactI_any hown hlb HCL.out)).mono ?_
       rintro e v ⟨v',rfl,hco,hg,hov⟩;have hk:Kept ((w.heap.size+1)::(us3 k).ownBlock.toList) w' v:=(kept_ownI hg).more (fun q hq=>List.mem_cons_of_mem _ hq);exact hK _ _ ⟨_,_,_,_,_,_,_,_,_,_,_,_,_,_,_,_,_,rfl,rfl,(hk0.trans hk),(fC.grown hg (fun e=>by have:=((ho.gr.own k hlk).2.lt _ e.symm).1;omega)),(fun e=>by cases e),(fun _ _=>⟨w',_,ho,hmk,hco,hg,hov,hk0.size⟩),(fun e=>by cases e),f0,f1,f2,f3,f4,f5,f7,(fun e=>by cases e),(fun _=>rfl)⟩
      |7,ho,hli,hd=>obtain⟨rfl,rfl⟩:_∧b7=false:=Zqj ho hli;obtain rfl:b0=true:=Zqx 0 (by simp);obtain rfl:b1=true:=Zqx 1 (by simp);obtain rfl:=f0 rfl;obtain rfl:=f1 rfl;go_simp;exact hK _ _ ⟨_,_,_,_,_,_,_,_,_,_,_,_,_,_,_,_,_,rfl,rfl,hk0,fC,fG,fA,fE,f0,f1,f2,f3,f4,f5,(fun _=>rfl),c8,c6⟩
      |8,ho,hli,hd=>
       obtain⟨rfl,rfl⟩:_∧b8=false:=Zqj ho hli;obtain rfl:b6=true:=Zqx 6 (by simp);obtain rfl:b7=true:=Zqx 7 (by simp);obtain rfl:=f7 rfl
       obtain⟨Wa,l',ha1,ham,ha2,ha3,ha4,ha5⟩:=fA rfl rfl
       obtain⟨A,l2,c,rfl⟩:=ha2.shape
       have hub:Blk w' (w.heap.size+1) 23 (valCells (N+1) us3):=ha1.gr.blk.grown ha3 (fun e=>by have:=((ha1.gr.own k hlk).2.lt _ e.symm).1;omega);have hm:w'.cell? ⟨w.heap.size+1,k,none⟩=some (us3 k):=(by rw[hub.cell,valCells_get _ _ _ hlk]);have hz:=hub.frozen k;have hgr:=ha1.gr.app (by omega) hlk ha2 ha3 (fun q hq=>.inl (by rw[← ha4];exact hq));have hk:Kept ((w.heap.size+1)::(us3 k).ownBlock.toList) w' (w'.setCell ⟨w.heap.size+1,k,none⟩ (.slice A l2 c)):=(Kept.refl _ _).set (.inl (by simp)) _;have hk1:Kept [w.heap.size+1] w' (w'.setCell ⟨w.heap.size+1,k,none⟩ (.slice A l2 c)):=(Kept.refl _ _).set (.inl (by simp)) _;have hmk2:=(ham.grown (ha1.gr.own k hlk) ha3).kept hk1 (fun q hq=>⟨.cells (valCells (N+1) us3) 23 (0,0),(by have e:q=w.heap.size+1:=(by simpa using hq);subst e;exact hub),rfl⟩);have HCC:=Zq1 c6;clear c6;go_simp;exact hK _ _ ⟨_,_,_,_,_,_,_,_,_,_,_,_,_,_,_,_,_,rfl,rfl,(hk0.trans hk),(fC.far (by simp) _),(fun e=>by cases e),(fun _ e=>by cases e),(fun _=>⟨_,_,⟨hgr,fC.far (by simp) _,Kept.below HBL1.out (hk0.trans hk) HBL1.out.size (fun q hq=>(List.mem_cons.1 hq).elim (fun e=>by omega) (fun h=>by have:=HOL1.out q (by simpa using h);omega)),by have:=(hk0.trans hk).size;have:=HSZ1.out;omega,by omega⟩,hmk2⟩),f0,f1,f2,f3,f4,f5,f7,(fun _=>rfl),HCC.out⟩
      |i+9,ho,hli,hd=>simp at ho
     rintro listed a' w' ⟨b0,b1,b2,b3,b4,b5,b6,b7,b8,u54,u55,u56,u57,u58,u59,u60,u61,rfl,rfl,hk0,fC,fG,fA,fE,f0,f1,f2,f3,f4,f5,f7,c8,c6⟩ hr;obtain rfl:b0=true:=Zqn hr 0 rfl;obtain rfl:b1=true:=Zqn hr 1 rfl;obtain rfl:b2=true:=Zqn hr 2 rfl;obtain rfl:b3=true:=Zqn hr 3 rfl;obtain rfl:b4=true:=Zqn hr 4 rfl;obtain rfl:b5=true:=Zqn hr 5 rfl;obtain rfl:b6=true:=Zqn hr 6 rfl;obtain rfl:b7=true:=Zqn hr 7 rfl;obtain rfl:b8=true:=Zqn hr 8 rfl;clear hr
     obtain⟨us',ls',hE,hmE⟩:=fE rfl
     clear fC fG fA fE f0 f1 f2 f3 f4 f5 f7 c8 c6
     have hfn:updG VV k (Lib.compact (sortZ (rawL p.rules k)))=fun a=>if a<k+1 then Lib.compact (sortZ (rawL p.rules a))else rawL p.rules a:=by
      rw[HVV.out]
      funext a
      unfold updG
      by_cases e:a=k
      ·subst e;simp
      ·by_cases e2:a<k
       ·simp[e,e2,show a<k+1 by omega]
       ·simp[e,e2,show ¬a<k+1 by omega]
     rw[hfn]at hE
     obtain⟨HE,HME,HK0⟩:=Zq3 hE hmE hk0;clear hE hmE hk0
     gi_wp2_with fail;go_roundw;exact⟨k+1,_,_,by omega,by go_num,HE.out,HME.out⟩;simp[intOf];omega
    ·obtain rfl:k=N+1:=(by omega);have hU:(fun a=>if a<N+1 then Lib.compact (sortZ (rawL p.rules a))else rawL p.rules a)=(fun a=>if a<N+1 then Lib.compact (sortZ (rawL p.rules a))else rawL p.rules a):=rfl;have hbx0:wi.cell? ⟨w.heap.size+1+1,0,none⟩=some (.slice (some ⟨w.heap.size+1,0,none⟩) (N+1) (N+1)):=ho3.bx.cell 0
     have hfin:SlIs (slR intR) wi (some ⟨w.heap.size+1,0,none⟩) (N+1) (N+1) (ofL p):=by
      have h:=ho3.gr.sl (by omega) (fun a ha=>by
       have h1:=(ho3.gr.own a ha).1;simp only[ha,if_true]at h1;have h2:=Lib.compact_length_le (sortZ (rawL p.rules a));have h3:=(sortZ_perm (rawL p.rules a)).length_eq;have h4:=HRL0.out a;omega) (fun a ha x hx=>by
       simp only[ha,if_true]at hx;have hx:=((comp_spec _).1 x).1 hx
       obtain⟨r,hr,-,hb,h0⟩:=(raw_mem _ _ _).1 hx
       have:=ordGo_mem _ _ _ (show ordGo p.n none r.body=true from(HI.out.rules r hr).body) x hb
       unfold litB at this;simp only[Bool.and_eq_true,bne_iff_ne,decide_eq_true_eq]at this;unfold I64;omega)
      have e:(List.range (N+1)).map (fun a=>if a<N+1 then Lib.compact (sortZ (rawL p.rules a))else rawL p.rules a)=ofL p:=by
       unfold ofL;rw[HNN.out];refine List.map_congr_left fun a ha=>?_;rw[if_pos (List.mem_range.1 ha)]
      rw[e]at h;exact h
     have hbl:=ho3.bel;clear hU
     obtain⟨HO3,HMK3,HFIN,HBL⟩:=Zq4 ho3 hmk3 hfin hbl;clear ho3 hmk3 hfin hbl
     gi_wp2_with fail;refine leaves_marks Ds _ HMK3.out fun W' hk'=>?_
     have hmm:∀D∈Ds,∀o,wi.heap[D]? = some o→o.isCells=false:=fun D hD o h=>by
      rw[(HMK3.out.m D hD).2]at h;cases h;rfl
     exact⟨_,results_tmp (t:=2) rfl _ _ _,_,rfl,marks_sl hmm hk' HFIN.out,by omega,Kept.below HBL.out hk' HBL.out.size (fun D hD=>(HMK3.out.m D hD).1)⟩

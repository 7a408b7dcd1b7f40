/- GSc -/
import Derived.Test.YthdjkenhkedjjaaGreatGSb
set_option maxRecDepth 100000
set_option maxHeartbeats 8000000
namespace Go.Proofs.YthdjkenhkedjjaaGreat
open Go.RowKit Go.Shelf
attribute [local go_sem] Oper.semAt_some
theorem shift_err (p:GProg)(nA:OA)(nl nc:Nat)(sA:OA)(sl sc:Nat)(rA:OA)(rl rc:Nat)(mA:OA)(ml mc:Nat)(w:World)(hp:ProgIn w p nA nl nc sA sl sc rA rl rc mA ml mc)(hv:shiftE (freeB p) p≠0):
  Calls Tryz.prog 23 #[.agg #[.int .i64 p.n,.slice nA nl nc,.slice sA sl sc,.slice rA rl rc,.slice mA ml mc]] w fun e w'=>e=.returned (.tuple #[.agg #[.int .i64 0,.slice none 0 0,.slice none 0 0,.slice none 0 0,.slice none 0 0],.int .i64 (shiftE (freeB p) p)])∧Below w.heap.size w w':=by
 by_cases h0:validE p=0
 ·have cF:=fun W (hb:Below w.heap.size w W)=>free_any p nA nl nc sA sl sc rA rl rc mA ml mc W (hp.ext hb) h0
  have hff:freeB p=false:=by
   cases hf:freeB p with
   |false=>rfl
   |true=>exact absurd (by unfold shiftE;rw[if_neg (by simp[h0]),hf];rfl) hv
  have he:shiftE (freeB p) p=220:=by unfold shiftE;rw[if_neg (by simp[h0]),hff];rfl
  rw[he];rw[hff]at cF;have bZ:Blk ((w.alloc (.cells #[.int .i64 p.n,.slice nA nl nc,.slice sA sl sc,.slice rA rl rc,.slice mA ml mc] 27)).alloc (.cells #[.int .i64 0,.slice none 0 0,.slice none 0 0,.slice none 0 0,.slice none 0 0] 27)) (w.heap.size+1) 27 #[.int .i64 0,.slice none 0 0,.slice none 0 0,.slice none 0 0,.slice none 0 0]:=blk_new (by simp) _ _;have bP:Blk ((w.alloc (.cells #[.int .i64 p.n,.slice nA nl nc,.slice sA sl sc,.slice rA rl rc,.slice mA ml mc] 27)).alloc (.cells #[.int .i64 0,.slice none 0 0,.slice none 0 0,.slice none 0 0,.slice none 0 0] 27)) w.heap.size 27 #[.int .i64 p.n,.slice nA nl nc,.slice sA sl sc,.slice rA rl rc,.slice mA ml mc]:=(blk_new rfl _ _).alloc _;have bW:Below w.heap.size w ((w.alloc (.cells #[.int .i64 p.n,.slice nA nl nc,.slice sA sl sc,.slice rA rl rc,.slice mA ml mc] 27)).alloc (.cells #[.int .i64 0,.slice none 0 0,.slice none 0 0,.slice none 0 0,.slice none 0 0] 27)):=bel_trans (bel_alloc _ _) (bel_alloc _ _);clear hv
  obtain⟨HP,CF,HFF,HE,BZ,BP,BW,H0⟩:=Zq8 hp cF hff he bZ bP bW h0;clear hp cF hff he bZ bP bW h0
  go_enter Tryz.func23,Tryz.ntmps23;go_wp2_with fail;go_fit (CF.out _ BW.out);rintro e w1 ⟨rfl,hb1⟩;have hz:=BZ.out.bel hb1;have hbw:=bel_trans BW.out hb1;have hzl:=hz.lt;have hfz:Blk (w1.setRow (w.heap.size+1) #[.int .i64 0,.slice none 0 0,.slice none 0 0,.slice none 0 0,.slice none 0 0]) (w.heap.size+1) 27 #[.int .i64 0,.slice none 0 0,.slice none 0 0,.slice none 0 0,.slice none 0 0]:=hz.row _;have hbf:Below w.heap.size w (w1.setRow (w.heap.size+1) #[.int .i64 0,.slice none 0 0,.slice none 0 0,.slice none 0 0,.slice none 0 0]):=Kept.below hbw ((Kept.refl [w.heap.size+1] w1).row (.inl (by simp)) _) hbw.size (fun q hq=>by simp at hq;omega);clear hb1
  obtain⟨HZ,HBW,HFZ,HBF⟩:=Zq4 hz hbw hfz hbf;clear hz hbw hfz hbf
  go_wp2_with (refine wpList_store_row (by rfl) 27 _ _ (by rfl) (w.heap.size+1) #[.int .i64 0,.slice none 0 0,.slice none 0 0,.slice none 0 0,.slice none 0 0] (by rfl) (by rfl) 27 _ HZ.out info_prog' (by rfl) (by simp[Value.oneCell']) ?_);refine bodyPost_ret (results_row_tmp rfl _ _ (w.heap.size+1) 27 #[.int .i64 0,.slice none 0 0,.slice none 0 0,.slice none 0 0,.slice none 0 0] _ (.int .i64 220) rfl rfl HFZ.out Tryz.underlying27 rfl info_prog') rfl ?_
  exact⟨rfl,HBF.out⟩
 ·have cF:=fun W (hb:Below w.heap.size w W)=>free_err p nA nl nc sA sl sc rA rl rc mA ml mc W (hp.ext hb) h0;have he:shiftE (freeB p) p=validE p:=by unfold shiftE;rw[if_pos h0]
  rw[he]
  obtain⟨v,hve⟩:∃v,v=validE p:=⟨_,rfl⟩
  rw[← hve]at cF h0 ⊢;have bZ:Blk ((w.alloc (.cells #[.int .i64 p.n,.slice nA nl nc,.slice sA sl sc,.slice rA rl rc,.slice mA ml mc] 27)).alloc (.cells #[.int .i64 0,.slice none 0 0,.slice none 0 0,.slice none 0 0,.slice none 0 0] 27)) (w.heap.size+1) 27 #[.int .i64 0,.slice none 0 0,.slice none 0 0,.slice none 0 0,.slice none 0 0]:=blk_new (by simp) _ _;have bP:Blk ((w.alloc (.cells #[.int .i64 p.n,.slice nA nl nc,.slice sA sl sc,.slice rA rl rc,.slice mA ml mc] 27)).alloc (.cells #[.int .i64 0,.slice none 0 0,.slice none 0 0,.slice none 0 0,.slice none 0 0] 27)) w.heap.size 27 #[.int .i64 p.n,.slice nA nl nc,.slice sA sl sc,.slice rA rl rc,.slice mA ml mc]:=(blk_new rfl _ _).alloc _;have bW:Below w.heap.size w ((w.alloc (.cells #[.int .i64 p.n,.slice nA nl nc,.slice sA sl sc,.slice rA rl rc,.slice mA ml mc] 27)).alloc (.cells #[.int .i64 0,.slice none 0 0,.slice none 0 0,.slice none 0 0,.slice none 0 0] 27)):=bel_trans (bel_alloc _ _) (bel_alloc _ _);have q1:(v != 0)=true:=by simpa using h0
  clear hv
  obtain⟨HP,CF,HE,BZ,BP,BW,H0,HVE⟩:=Zq8 hp cF he bZ bP bW h0 hve;clear hp cF he bZ bP bW h0 hve
  go_enter Tryz.func23,Tryz.ntmps23;go_wp2_with fail;go_fit (CF.out _ BW.out);rintro e w1 ⟨rfl,hb1⟩;have hz:=BZ.out.bel hb1;have hbw:=bel_trans BW.out hb1;have hzl:=hz.lt;have hfz:Blk (w1.setRow (w.heap.size+1) #[.int .i64 0,.slice none 0 0,.slice none 0 0,.slice none 0 0,.slice none 0 0]) (w.heap.size+1) 27 #[.int .i64 0,.slice none 0 0,.slice none 0 0,.slice none 0 0,.slice none 0 0]:=hz.row _;have hbf:Below w.heap.size w (w1.setRow (w.heap.size+1) #[.int .i64 0,.slice none 0 0,.slice none 0 0,.slice none 0 0,.slice none 0 0]):=Kept.below hbw ((Kept.refl [w.heap.size+1] w1).row (.inl (by simp)) _) hbw.size (fun q hq=>by simp at hq;omega);clear hb1
  obtain⟨HZ,HBW,HFZ,HBF⟩:=Zq4 hz hbw hfz hbf;clear hz hbw hfz hbf
  go_wp2_with (refine wpList_store_row (by rfl) 27 _ _ (by rfl) (w.heap.size+1) #[.int .i64 0,.slice none 0 0,.slice none 0 0,.slice none 0 0,.slice none 0 0] (by rfl) (by rfl) 27 _ HZ.out info_prog' (by rfl) (by simp[Value.oneCell']) ?_);refine bodyPost_ret (results_row_tmp rfl _ _ (w.heap.size+1) 27 #[.int .i64 0,.slice none 0 0,.slice none 0 0,.slice none 0 0,.slice none 0 0] _ (.int .i64 v) rfl rfl HFZ.out Tryz.underlying27 rfl info_prog') rfl ?_
  exact⟨rfl,HBF.out⟩
theorem lev_ord {n:Int}:∀(ms:List GMin)(q:Option GMin),minGoE n q ms=true→∀l∈ms,ordB n l.lits=true
 |[],_,_,l,hl=>by cases hl
 |x::t,q,h,l,hl=>by
  rw[minGoE_cons,Bool.and_eq_true,Bool.and_eq_true]at h;rcases List.mem_cons.1 hl with rfl | hl
  ·have h1:=h.1.1;unfold minOk at h1;simp only[Bool.and_eq_true]at h1;exact h1.1.1.1
  ·exact lev_ord t _ h.2 l hl
theorem val_sizes {w:World}{p:GProg}{nA:OA}{nl nc:Nat}{sA:OA}{sl sc:Nat}{rA:OA}{rl rc:Nat}{mA:OA}{ml mc:Nat}(hp:ProgIn w p nA nl nc sA sl sc rA rl rc mA ml mc)(hv:validE p=0):(nl≤100000∧sl≤100000∧ml≤100000)∧∀r∈p.min,r.lits.length≤100000∧r.w.length≤100000:=by
 have hi:=validE_is hv;have h3:=hi.named;have hn:=namedB_n h3;unfold namedB at h3;simp only[Bool.and_eq_true,decide_eq_true_eq]at h3;have h4:=inc_lenN hn.1 h3.1.2;have h5:=hp.names.len;have h6:=hp.shown.len;have h7:=hp.min.len;have h9:=hi.mins
 refine⟨⟨by omega,by omega,by omega⟩,fun l hl=>?_⟩
 have h1:=ordB_len hn.1 (lev_ord _ _ hi.min l hl);have h2:=(valid_lev hv l hl).len;omega
structure ShJ (w0:World)(cn B0 base:Nat)(p0:LG)(Ds:LN)(L:Nat)(M:LN)(pre:LG)(W:World):Prop where
 mks:Mks w0 W Ds∧∀D∈Ds,cn<D∧D<L
 ri:∃v cs,M=MOf B0 v∧Blk W B0 24 #[v]∧OutRow W base v cs (cn::M) (p0++pre)∧Below w0.heap.size w0 W∧base≤W.heap.size
theorem OutRow.keptC {base cn:Nat}{v:Value}{cs:List Value}{M:LN}{pre:LG}{A B:World}(h:OutRow A base v cs (cn::M) pre)(hc:cn<base)(hk:Kept [cn] A B):OutRow B base v cs (cn::M) pre:=by
 obtain⟨ho,hr⟩:=h
 refine⟨ownsRow_keptS ho hk (fun q hq hm=>by have:=(ho.lt q hq).1;simp at hm;omega),fun i x hx=>?_⟩
 obtain⟨hA,hl,hc,bA,bl,bc,wA,wl,wc,h1,h2,h3,h4,h5⟩:=hr i x hx
 have sub:∀k∈[cn],k∈cn::M:=fun k hk=>by simp at hk;simp[hk]
 exact⟨hA,hl,hc,bA,bl,bc,wA,wl,wc,h1,h2.keptM hk (h3.sub sub) (h4.sub sub) (h5.sub sub),h3,h4,h5⟩
section
variable {w0 : World} {cn B0 base : Nat} {p0 : LG} {Ds : LN} {L : Nat} {M : LN} {pre : LG} {A B : World}
theorem ShJ.bel (j:ShJ w0 cn B0 base p0 Ds L M pre A):Below w0.heap.size w0 A:=by
 obtain⟨v,cs,rfl,hb,ho,hw,hs⟩:=j.ri
 exact hw
theorem ShJ.kept (j:ShJ w0 cn B0 base p0 Ds L M pre A)(h0:w0.heap.size≤cn)(h1:cn<B0)(h2:B0<base)(hk:Kept [cn] A B):ShJ w0 cn B0 base p0 Ds L M pre B:=by
 obtain⟨v,cs,rfl,hb,ho,hw,hs⟩:=j.ri
 refine⟨⟨⟨j.mks.1.nd,fun D hD=>⟨(j.mks.1.m D hD).1,(hk.block D (j.mks.1.lt hD) (fun hm=>by have:=(j.mks.2 D hD).1;simp at hm;omega)).trans (j.mks.1.m D hD).2⟩⟩,j.mks.2⟩,⟨v,cs,rfl,hk.blk hb (by simp;omega),ho.keptC (by omega) hk,Kept.below hw hk hw.size (fun q hq=>by simp at hq;omega),Nat.le_trans hs hk.size⟩⟩
theorem ShJ.keep {k:Nat}(j:ShJ w0 cn B0 base p0 Ds L M pre A)(hk0:w0.heap.size≤k)(hL:L≤k)(hn:∀o,A.heap[k]? = some o→o.isCells=false)(hk:Kept [k] A B):ShJ w0 cn B0 base p0 Ds L M pre B:=by
 obtain⟨v,cs,rfl,hb,ho,hw,hs⟩:=j.ri
 refine⟨⟨⟨j.mks.1.nd,fun D hD=>⟨(j.mks.1.m D hD).1,(hk.block D (j.mks.1.lt hD) (fun hm=>by have:=(j.mks.2 D hD).2;simp at hm;omega)).trans (j.mks.1.m D hD).2⟩⟩,j.mks.2⟩,⟨v,cs,rfl,hk.blk hb (by have:=blk_ne hb hn;simp;omega),ho.keep hn hk,Kept.below hw hk hw.size (fun q hq=>by simp at hq;omega),Nat.le_trans hs hk.size⟩⟩
theorem ShJ.cells (j:ShJ w0 cn B0 base p0 Ds L M pre A)(h1:cn<B0)(h2:B0<base):∀k∈M,k∉[cn]∧∃o,A.heap[k]? = some o∧o.isCells=true:=by
 obtain⟨v,cs,rfl,hb,⟨ho,_⟩,_⟩:=j.ri
 intro k hk;rcases MOf_mem hk with rfl | hv
 ·exact⟨by simp;omega,_,hb,rfl⟩
 ·have hlt:=(ho.lt k hv).1
  refine⟨by simp;omega,?_⟩
  rcases ho.2 with⟨rfl,_⟩ | ⟨g,cap,cur,rfl,_,hg,_⟩
  ·simp[Value.ownBlock]at hv
  ·have:g=k:=by simpa[Value.ownBlock]using hv
   subst this;exact⟨_,hg,rfl⟩
end
section
variable {W V : World} {Ds : LN}
end
theorem shift_off (p:GProg)(nA:OA)(nl nc:Nat)(sA:OA)(sl sc:Nat)(rA:OA)(rl rc:Nat)(mA:OA)(ml mc:Nat)(v0 w:World)(hvz:Below v0.heap.size v0 w)(Eo:LN)(hEo:∀q∈Eo,v0.heap.size≤q∧q<w.heap.size)(hpz:ProgIn v0 p nA nl nc sA sl sc rA rl rc mA ml mc)(hv:validE p=0)(hf:freeB p=true)(hso:SfOk p):
  Calls Tryz.prog 23 #[.agg #[.int .i64 p.n,.slice nA nl nc,.slice sA sl sc,.slice rA rl rc,.slice mA ml mc]] w fun e w'=>∃(nA':OA) (nl' nc':Nat) (sA':OA) (sl' sc':Nat) (rA':OA) (rl' rc':Nat) (mA':OA) (ml' mc':Nat),
   e=.returned (.tuple #[.agg #[.int .i64 (sfP p).n,.slice nA' nl' nc',.slice sA' sl' sc',.slice rA' rl' rc',.slice mA' ml' mc'],.int .i64 0])∧(∀V,Kept Eo w' V→ProgIn V (sfP p) nA' nl' nc' sA' sl' sc' rA' rl' rc' mA' ml' mc')∧Below w.heap.size w w':=by
 have hp:=hpz.ext hvz;have cF:=fun W (hb:Below w.heap.size w W)=>free_any p nA nl nc sA sl sc rA rl rc mA ml mc W (hp.ext hb) hv;rw[hf]at cF;have hi:=validE_is hv;have hnb:=namedB_n hi.named;have hrc:=hp.rules.cap;have hrm:=hp.rules.max;have hrl:=hp.rules.len
 obtain⟨N,hN⟩:∃N:Int,p.n=N:=⟨_,rfl⟩
 rw[hN]at hnb;have hn0:=hnb.1;have hn4:=hnb.2
 refine(callsIn_wide (n:=5)).1 ?_
 refine callsIn_of_wp_marks Tryz.func23 rfl trivial ?_ rfl;simp only[Tryz.ntmps23,List.size_toArray,List.length_cons,List.length_nil,Nat.reduceAdd,Nat.reduceSub,Array.replicate_succ,Array.replicate_zero,List.push_toArray,List.append_toArray,List.nil_append,List.cons_append];rw[hN];have bZ:Blk ((w.alloc (.cells #[.int .i64 N,.slice nA nl nc,.slice sA sl sc,.slice rA rl rc,.slice mA ml mc] 27)).alloc (.cells #[.int .i64 0,.slice none 0 0,.slice none 0 0,.slice none 0 0,.slice none 0 0] 27)) (w.heap.size+1) 27 #[.int .i64 0,.slice none 0 0,.slice none 0 0,.slice none 0 0,.slice none 0 0]:=blk_new (by simp) _ _;have bP:Blk ((w.alloc (.cells #[.int .i64 N,.slice nA nl nc,.slice sA sl sc,.slice rA rl rc,.slice mA ml mc] 27)).alloc (.cells #[.int .i64 0,.slice none 0 0,.slice none 0 0,.slice none 0 0,.slice none 0 0] 27)) w.heap.size 27 #[.int .i64 N,.slice nA nl nc,.slice sA sl sc,.slice rA rl rc,.slice mA ml mc]:=(blk_new rfl _ _).alloc _;have bW:Below w.heap.size w ((w.alloc (.cells #[.int .i64 N,.slice nA nl nc,.slice sA sl sc,.slice rA rl rc,.slice mA ml mc] 27)).alloc (.cells #[.int .i64 0,.slice none 0 0,.slice none 0 0,.slice none 0 0,.slice none 0 0] 27)):=bel_trans (bel_alloc _ _) (bel_alloc _ _);have hs2:((w.alloc (.cells #[.int .i64 N,.slice nA nl nc,.slice sA sl sc,.slice rA rl rc,.slice mA ml mc] 27)).alloc (.cells #[.int .i64 0,.slice none 0 0,.slice none 0 0,.slice none 0 0,.slice none 0 0] 27)).heap.size=w.heap.size+2:=(by simp);have cF':∀W,Below w.heap.size w W→Calls Tryz.prog 27 #[.agg #[.int .i64 N,.slice nA nl nc,.slice sA sl sc,.slice rA rl rc,.slice mA ml mc]] W fun e w'=>e=.returned (.tuple #[.bool true,.int .i64 0])∧Below W.heap.size W w':=by rw[← hN];exact cF
 clear cF
 obtain⟨HP,HV,HF,HSO,HI,HRL,HN,BZ,BP,BW,HS2,CF'⟩:=Zq12 hp hv hf hso hi hrl hN bZ bP bW hs2 cF';clear hp hv hf hso hi hrl hN bZ bP bW hs2 cF'
 obtain⟨HNB,HVZ,HEO,HPZ⟩:=Zq4 hnb hvz hEo hpz;clear hnb hvz hEo hpz
 gi_wp2_with fail;generalize (w.alloc (.cells #[.int .i64 N,.slice nA nl nc,.slice sA sl sc,.slice rA rl rc,.slice mA ml mc] 27)).alloc (.cells #[.int .i64 0,.slice none 0 0,.slice none 0 0,.slice none 0 0,.slice none 0 0] 27)=W0 at *
 refine⟨trivial,?_⟩
 refine(callsIn_wide.2 (CF'.out _ BW.out)).mono ?_
 rintro e w1 ⟨rfl,hb1⟩;have bP1:=BP.out.bel hb1;have bZ1:=BZ.out.bel hb1;have bw1:=bel_trans BW.out hb1;have hs1:w.heap.size+2≤w1.heap.size:=by have:=hb1.size;have:=HS2.out;omega
 have c0:w1.cell? ⟨w.heap.size,0,none⟩=some (.int .i64 N):=bP1.cell 0;have c3:w1.cell? ⟨w.heap.size,3,none⟩=some (.slice rA rl rc):=bP1.cell 3;clear hb1
 obtain⟨BP1,BZ1,BW1,HS1⟩:=Zq4 bP1 bZ1 bw1 hs1;clear bP1 bZ1 bw1 hs1
 gi_wp2_with fail
 refine⟨trivial,?_⟩
 refine(callsIn_wide.2 (counter_any N _)).mono ?_
 rintro e w2 ⟨rfl,rfl⟩;have ba2:=bel_alloc2 w1 (.cells #[.int .i64 N] 3) (.cells #[.slice none 0 0] 24);have bP2:=BP1.out.bel ba2;have bZ2:=BZ1.out.bel ba2;have bN2:Blk ((w1.alloc (.cells #[.int .i64 N] 3)).alloc (.cells #[.slice none 0 0] 24)) w1.heap.size 3 #[.int .i64 N]:=(blk_new rfl _ _).alloc _;have bR2:Blk ((w1.alloc (.cells #[.int .i64 N] 3)).alloc (.cells #[.slice none 0 0] 24)) (w1.heap.size+1) 24 #[.slice none 0 0]:=blk_new (by simp) _ _;have hs3:((w1.alloc (.cells #[.int .i64 N] 3)).alloc (.cells #[.slice none 0 0] 24)).heap.size=w1.heap.size+2:=(by simp);have d3:((w1.alloc (.cells #[.int .i64 N] 3)).alloc (.cells #[.slice none 0 0] 24)).cell? ⟨w.heap.size,3,none⟩=some (.slice rA rl rc):=bP2.cell 3
 obtain⟨BA2,BP2,BZ2,BN2,BR2,HS3⟩:=Zq6 ba2 bP2 bZ2 bN2 bR2 hs3;clear ba2 bP2 bZ2 bN2 bR2 hs3
 gi_wp2_with fail;generalize (w1.alloc (.cells #[.int .i64 N] 3)).alloc (.cells #[.slice none 0 0] 24)=W3 at *;refine wpIn_loop (fun a' w'=>∃(u9 u10 u32 u33 u34 u35 u36 u37 u38 u39 u40 u41 u42 u43 u44:Value) (Ds:LN) (k:Nat) (L:Nat) (M:LN),(k≤rl∧u32=.int .i64 (k:Int)∧ShJ w1 w1.heap.size (w1.heap.size+1) (w1.heap.size+2) (sfL (p.rules.take k) N) Ds L M [] w'∧Blk w' w1.heap.size 3 #[.int .i64 (N+(sfC (p.rules.take k):Int))])∧a'={ tmps:=#[.agg #[.int .i64 N,.slice nA nl nc,.slice sA sl sc,.slice rA rl rc,.slice mA ml mc],.pointer (some ⟨w.heap.size,0,none⟩),.pointer (some ⟨w.heap.size+1,0,none⟩),.int .i64 0,.bool true,.int .i64 0,.func (.func 100) #[] #[.pointer (some ⟨w1.heap.size,0,none⟩)],.pointer (some ⟨w1.heap.size+1,0,none⟩),undef,u9,u10,undef,.tuple #[.bool true,.int .i64 0],.agg #[.int .i64 N,.slice nA nl nc,.slice sA sl sc,.slice rA rl rc,.slice mA ml mc],.tuple #[.bool true,.int .i64 0],.bool true,.int .i64 0,.bool false,.int .i64 0,.bool false,undef,undef,.bool false,.bool true,.bool false,undef,.pointer (some ⟨w.heap.size,0,none⟩),.int .i64 N,.func (.func 100) #[] #[.pointer (some ⟨w1.heap.size,0,none⟩)],.pointer (some ⟨w.heap.size,3,none⟩),.slice rA rl rc,.int .i64 (rl:Int),u32,u33,u34,u35,u36,u37,u38,u39,u40,u41,u42,u43,u44,undef,undef,undef,undef,undef,undef,undef,undef,undef,undef,undef,undef,undef],defers:=Ds.map mkD }) (fun a' _=>rl-(intOf (a'.tmps.getD 32 undef)).toNat) ?_ ?_
 ·refine⟨_,_,_,_,_,_,_,_,_,_,_,_,_,_,_,[],0,0,MOf (w1.heap.size+1) (.slice none 0 0),⟨Nat.zero_le _,rfl,⟨⟨Mks.nil _ _,fun D h=>by cases h⟩,⟨.slice none 0 0,[],rfl,BR2.out,⟨World.ownsRow_nil _ _ _ _,fun i x hx=>by simp[sfL]at hx⟩,BA2.out,by have:=HS3.out;omega⟩⟩,by simpa[sfC]using BN2.out⟩,rfl⟩
 ·rintro _ wo ⟨u9,u10,u32,u33,u34,u35,u36,u37,u38,u39,u40,u41,u42,u43,u44,Ds,k,L,M,⟨hk,rfl,hj,hcn⟩,rfl⟩;have hbw:Below w.heap.size w wo:=bel_trans BW1.out hj.bel
  by_cases hlt:k<rl
  ·obtain⟨r,hri,-⟩:=HP.out.rules.drop hlt
   obtain⟨bb,off,hA,hl,hc,bA,bl,bc,wA,wl,wc,rfl,hbl2,x0,x1,x2,x3,x4,x5,g1,g2,g3,g4⟩:=HP.out.rules.rule hri
   have d0:=(hbw.cell (World.block_lt_of_cell? _ _ x0)).trans x0;have d1:=(hbw.cell (World.block_lt_of_cell? _ _ x1)).trans x1;have d2:=(hbw.cell (World.block_lt_of_cell? _ _ x2)).trans x2;have d3':=(hbw.cell (World.block_lt_of_cell? _ _ x3)).trans x3;have d4:=(hbw.cell (World.block_lt_of_cell? _ _ x4)).trans x4;have d5:=(hbw.cell (World.block_lt_of_cell? _ _ x5)).trans x5;clear x0 x1 x2 x3 x4 x5;have k0:(0:Int)≤(k:Int):=(by omega);have k1:(k:Int)<(rl:Int):=(by omega);have hri_:=HI.out.rules r (List.mem_of_getElem? hri);have hrin:RuleIn w r hA hl hc bA bl bc wA wl wc:=⟨g1,g2,g3,g4⟩;have b4:Blk (wo.alloc (.cells #[.bool r.choice,.slice hA hl hc,.bool r.sum,.int .i64 r.bound,.slice bA bl bc,.slice wA wl wc] 42)) wo.heap.size 42 #[.bool r.choice,.slice hA hl hc,.bool r.sum,.int .i64 r.bound,.slice bA bl bc,.slice wA wl wc]:=blk_new rfl _ _;have m0:(wo.alloc (.cells #[.bool r.choice,.slice hA hl hc,.bool r.sum,.int .i64 r.bound,.slice bA bl bc,.slice wA wl wc] 42)).cell? ⟨wo.heap.size,0,none⟩=some (.bool r.choice):=b4.cell 0;have m1:(wo.alloc (.cells #[.bool r.choice,.slice hA hl hc,.bool r.sum,.int .i64 r.bound,.slice bA bl bc,.slice wA wl wc] 42)).cell? ⟨wo.heap.size,1,none⟩=some (.slice hA hl hc):=b4.cell 1;have m2:(wo.alloc (.cells #[.bool r.choice,.slice hA hl hc,.bool r.sum,.int .i64 r.bound,.slice bA bl bc,.slice wA wl wc] 42)).cell? ⟨wo.heap.size,2,none⟩=some (.bool r.sum):=b4.cell 2;have m3:(wo.alloc (.cells #[.bool r.choice,.slice hA hl hc,.bool r.sum,.int .i64 r.bound,.slice bA bl bc,.slice wA wl wc] 42)).cell? ⟨wo.heap.size,3,none⟩=some (.int .i64 r.bound):=b4.cell 3;have m4:(wo.alloc (.cells #[.bool r.choice,.slice hA hl hc,.bool r.sum,.int .i64 r.bound,.slice bA bl bc,.slice wA wl wc] 42)).cell? ⟨wo.heap.size,4,none⟩=some (.slice bA bl bc):=b4.cell 4;have m5:(wo.alloc (.cells #[.bool r.choice,.slice hA hl hc,.bool r.sum,.int .i64 r.bound,.slice bA bl bc,.slice wA wl wc] 42)).cell? ⟨wo.heap.size,5,none⟩=some (.slice wA wl wc):=b4.cell 5
   obtain⟨HJ,HCN,HBW,HRI,G1,G2,G3,G4,HRI_,HRIN,B4⟩:=Zq11 hj hcn hbw hri g1 g2 g3 g4 hri_ hrin b4;clear hj hcn hbw hri g1 g2 g3 g4 hri_ hrin b4
   gi_wp2_with fail;clear m0 m1 m2 m3 m4 m5 d0 d1 d2 d3' d4 d5
   refine⟨trivial,?_⟩
   refine(callsIn_wide.2 (shifted_any r hA hl hc bA bl bc wA wl wc w1.heap.size _)).mono ?_
   rintro e w5 ⟨rfl,rfl⟩;gi_wp2_with fail;have hb5:Below wo.heap.size wo (((wo.alloc (.cells #[.bool r.choice,.slice hA hl hc,.bool r.sum,.int .i64 r.bound,.slice bA bl bc,.slice wA wl wc] 42)).alloc (.cells #[.bool r.choice,.slice hA hl hc,.bool r.sum,.int .i64 r.bound,.slice bA bl bc,.slice wA wl wc] 42)).alloc (.cells #[.func (.func 100) #[] #[.pointer (some ⟨w1.heap.size,0,none⟩)]] 88)):=bel_trans (bel_trans (bel_alloc _ _) (bel_alloc _ _)) (bel_alloc _ _);have e1:Blk (((wo.alloc (.cells #[.bool r.choice,.slice hA hl hc,.bool r.sum,.int .i64 r.bound,.slice bA bl bc,.slice wA wl wc] 42)).alloc (.cells #[.bool r.choice,.slice hA hl hc,.bool r.sum,.int .i64 r.bound,.slice bA bl bc,.slice wA wl wc] 42)).alloc (.cells #[.func (.func 100) #[] #[.pointer (some ⟨w1.heap.size,0,none⟩)]] 88)) (wo.heap.size+1) 42 #[.bool r.choice,.slice hA hl hc,.bool r.sum,.int .i64 r.bound,.slice bA bl bc,.slice wA wl wc]:=(blk_new (by simp) _ _).alloc _;have e2:Blk (((wo.alloc (.cells #[.bool r.choice,.slice hA hl hc,.bool r.sum,.int .i64 r.bound,.slice bA bl bc,.slice wA wl wc] 42)).alloc (.cells #[.bool r.choice,.slice hA hl hc,.bool r.sum,.int .i64 r.bound,.slice bA bl bc,.slice wA wl wc] 42)).alloc (.cells #[.func (.func 100) #[] #[.pointer (some ⟨w1.heap.size,0,none⟩)]] 88)) (wo.heap.size+1+1) 88 #[.func (.func 100) #[] #[.pointer (some ⟨w1.heap.size,0,none⟩)]]:=blk_new (by simp) _ _;have e3:(((wo.alloc (.cells #[.bool r.choice,.slice hA hl hc,.bool r.sum,.int .i64 r.bound,.slice bA bl bc,.slice wA wl wc] 42)).alloc (.cells #[.bool r.choice,.slice hA hl hc,.bool r.sum,.int .i64 r.bound,.slice bA bl bc,.slice wA wl wc] 42)).alloc (.cells #[.func (.func 100) #[] #[.pointer (some ⟨w1.heap.size,0,none⟩)]] 88)).heap.size=wo.heap.size+3:=(by simp);generalize (((wo.alloc (.cells #[.bool r.choice,.slice hA hl hc,.bool r.sum,.int .i64 r.bound,.slice bA bl bc,.slice wA wl wc] 42)).alloc (.cells #[.bool r.choice,.slice hA hl hc,.bool r.sum,.int .i64 r.bound,.slice bA bl bc,.slice wA wl wc] 42)).alloc (.cells #[.func (.func 100) #[] #[.pointer (some ⟨w1.heap.size,0,none⟩)]] 88))=X5 at *;have hbw1j:=HJ.out.bel;have hj5:=HJ.out.kept (Nat.le_refl _) (by omega) (by omega) (Kept.of_below hb5 _);have hj6:ShJ w1 w1.heap.size (w1.heap.size+1) (w1.heap.size+2) (sfL (p.rules.take k) N) Ds X5.heap.size M [] X5:=⟨⟨hj5.mks.1,fun D hD=>⟨(hj5.mks.2 D hD).1,hj5.mks.1.lt hD⟩⟩,hj5.ri⟩;have hc5:=HCN.out.bel hb5;have hcl5:=HCN.out.lt;have hbw5:=bel_trans HBW.out hb5
   have hMl:∀q∈M,w1.heap.size+1≤q∧q<wo.heap.size:=fun q hq=>by
    have hc:=HJ.out.cells (by omega) (by omega) q hq
    obtain⟨_,o,ho,_⟩:=hc
    refine⟨?_,(Array.getElem?_eq_some_iff.1 ho).1⟩
    obtain⟨v,cs,rfl,hb,⟨hrow,_⟩,_⟩:=HJ.out.ri
    rcases MOf_mem hq with e | e
    ·omega
    ·have:=(hrow.lt _ e).1;omega
   have hsN:N+(sfC (p.rules.take k):Int)≤4000:=by
    have h1:=HSO.out.n;have h2:=sfC_le p.rules k;rw[HN.out]at h1;omega
   have hw12:w.heap.size+2≤w1.heap.size:=HS1.out;have htk:=sfL_take HRI.out N;have htc:=sfC_take HRI.out;have hpl:(sfL p.rules N).length≤40000:=(by have:=HSO.out.l;rwa [HN.out]at this);have hpre:=sfL_pre p.rules N (k+1)
   obtain⟨HB5,E1,E2,E3,HBW1J,HJ5,HJ6,HC5,HBW5,HML,HSN,HTK⟩:=Zq12 hb5 e1 e2 e3 hbw1j hj5 hj6 hc5 hbw5 hMl hsN htk;clear hb5 e1 e2 e3 hbw1j hj5 hj6 hc5 hbw5 hMl hsN htk
   obtain⟨HTC,HPL,HPRE⟩:=Zq3 htc hpl hpre;clear htc hpl hpre
   refine wpIn_rangeC rfl (by omega) (gf:=101) (lb:=#[.pointer (some ⟨wo.heap.size+1,0,none⟩),.pointer (some ⟨wo.heap.size+1+1,0,none⟩)]) rfl trivial (enters_of Tryz.func101 (by kernel_rfl) rfl)
    (Cs:=[w1.heap.size]) (E:=fun W=>Blk W w1.heap.size 3 #[.int .i64 (N+(sfC (p.rules.take k):Int)+(sfN r:Int))]) (fun q hq=>by have:=HB5.out.size;simp at hq;omega)
    (fun A B q hq he _ hk=>hk.blk he (by have:=HB5.out.size;simp;omega))
    (shift1_iter 4 (by omega) r hA hl hc bA bl bc wA wl wc p.n (N+(sfC (p.rules.take k):Int)) (wo.heap.size+1) (wo.heap.size+1+1) w1.heap.size M w X5 HRIN.out HRI_.out HBW5.out (fun q hq=>by have:=HML.out q hq;omega)
     E1.out E2.out HC5.out (by omega) (by have:=HSN.out;omega) (by omega) (by omega))
    (fun _ _ _ _ h=>h.size) (fun _ _ _ _ _ _ h hs hk=>h.go (fun q hq=>by rcases List.mem_cons.1 hq with e | e;rw[e];simp;simp[hs q e]) (hk.more (fun q hq=>by simp[hq])))
    (ShJ w1 w1.heap.size (w1.heap.size+1) (w1.heap.size+2) (sfL (p.rules.take k) N) Ds X5.heap.size) (fun _ _ _=>False)
    (fun _ _ _ _ h hb=>h.kept (Nat.le_refl _) (by omega) (by omega) hb) (fun _ _ _ _ h _=>h) (fun _ _ _ _ q hq h hn hk=>h.keep (by have:=HBW1J.out.size;have:=HB5.out.size;omega) hq hn hk) (fun _ _ _ _ _ _ h _ _=>h) (fun _ _ _ h=>h.cells (by omega) (by omega))
    HJ6.out
    (fun x args a' W=>∃(Bx:Nat) (h b wt:Value),args=#[ruleV x h b wt]∧Blk W Bx 42 #[.bool x.choice,h,.bool x.sum,.int .i64 x.bound,b,wt]∧a'={ tmps:=#[.agg #[.int .i64 N,.slice nA nl nc,.slice sA sl sc,.slice (some ⟨bb,off,none⟩) rl rc,.slice mA ml mc],.pointer (some ⟨w.heap.size,0,none⟩),.pointer (some ⟨w.heap.size+1,0,none⟩),.int .i64 0,.bool true,.int .i64 0,.func (.func 100) #[] #[.pointer (some ⟨w1.heap.size,0,none⟩)],.pointer (some ⟨w1.heap.size+1,0,none⟩),undef,.pointer (some ⟨wo.heap.size,0,none⟩),.pointer (some ⟨Bx,0,none⟩),undef,.tuple #[.bool true,.int .i64 0],.agg #[.int .i64 N,.slice nA nl nc,.slice sA sl sc,.slice (some ⟨bb,off,none⟩) rl rc,.slice mA ml mc],.tuple #[.bool true,.int .i64 0],.bool true,.int .i64 0,.bool false,.int .i64 0,.bool false,undef,undef,.bool false,.bool true,.bool false,undef,.pointer (some ⟨w.heap.size,0,none⟩),.int .i64 N,.func (.func 100) #[] #[.pointer (some ⟨w1.heap.size,0,none⟩)],.pointer (some ⟨w.heap.size,3,none⟩),.slice (some ⟨bb,off,none⟩) rl rc,.int .i64 (rl:Int),.int .i64 (k:Int),.bool true,.pointer (some ⟨bb,off+k*6,none⟩),.agg #[.bool r.choice,.slice hA hl hc,.bool r.sum,.int .i64 r.bound,.slice bA bl bc,.slice wA wl wc],.agg #[.bool r.choice,.slice hA hl hc,.bool r.sum,.int .i64 r.bound,.slice bA bl bc,.slice wA wl wc],.func (.func 100) #[] #[.pointer (some ⟨w1.heap.size,0,none⟩)],.func (.func 101) #[] #[.pointer (some ⟨wo.heap.size+1,0,none⟩),.pointer (some ⟨wo.heap.size+1+1,0,none⟩)],ruleV x h b wt,u40,u41,u42,u43,u44,undef,undef,undef,undef,undef,undef,undef,undef,undef,undef,undef,undef,undef],defers:=[] })
    (fun x args a' A B q h hn hk=>by
     obtain⟨Bx,hh,b,wt,h1,h2,h3⟩:=h
     exact⟨Bx,hh,b,wt,h1,hk.blk h2 (by have:=blk_ne h2 hn;simp;omega),h3⟩)
    ?assign ?body ?done ?stop
   case assign=>
    intro l M' pre x args W K hi_ hg hK
    obtain⟨hA_,hl_,hc_,bA_,bl_,bc_,wA_,wl_,wc_,rfl,hx,o1,o2,o3⟩:=hg
    obtain⟨HI_,HX,O1,O2,O3⟩:=Zq5 hi_ hx o1 o2 o3;clear hi_ hx o1 o2 o3
    gi_wp2;exact hK _ _ (bel_alloc _ _) ⟨W.heap.size,_,_,_,rfl,Blk.new _ _ _,rfl⟩
   case body=>
    rintro l M' pre x args a' W hj hpf ⟨hA_,hl_,hc_,bA_,bl_,bc_,wA_,wl_,wc_,rfl,hx,o1,o2,o3⟩ ⟨Bx,h,b,wt,he,bx,rfl⟩;simp at he
    obtain⟨rfl,rfl,rfl⟩:=he
    have hmk:=hj.mks
    obtain⟨v,cs,rfl,hb,ho,hw,hbs⟩:=hj.ri
    have hlen:(sfL (p.rules.take k) N++pre).length<1099511627776:=by
     have h1:=HPRE.out;rw[HTK.out]at h1;have h2:=h1.length_le;have h3:=hpf.length_le;have h4:=HPL.out;rw[List.length_append]at h2 h3 ⊢;simp only[List.length_cons,List.length_nil]at h3;omega
    obtain⟨v',w4,hrun,hown,hg4,hat⟩:=appR ho.1 (.bool x.choice) (.slice hA_ hl_ hc_) (.bool x.sum) (.int .i64 x.bound) (.slice bA_ bl_ bc_) (.slice wA_ wl_ wc_) (by simp[Value.oneCell']) hlen hbs 24
    obtain⟨g',cap',rfl,hgb,hgl⟩:=World.ownsRow.form hown (by omega)
    obtain⟨pl,hplen⟩:∃pl,pl=(sfL (p.rules.take k) N++pre).length:=⟨_,rfl⟩
    rw[← hplen]at hrun hown hat;have hro:some (w1.heap.size+1)≠v.ownBlock:=fun e=>by have:=(ho.1.lt _ e.symm).1;omega
    have hbl:=hb.lt;have hc0:W.cell? ⟨w1.heap.size+1,0,none⟩=some v:=hb.cell 0;have hc4:=(hg4.cell_far ⟨w1.heap.size+1,0,none⟩ hbl hro).trans hc0;have hf4:=(hg4.frozen_far ⟨w1.heap.size+1,0,none⟩ hbl hro).trans (hb.frozen 0);have x0:W.cell? ⟨Bx,0,none⟩=some (.bool x.choice):=bx.cell 0;have x1:W.cell? ⟨Bx,1,none⟩=some (.slice hA_ hl_ hc_):=bx.cell 1;have x2:W.cell? ⟨Bx,2,none⟩=some (.bool x.sum):=bx.cell 2;have x3:W.cell? ⟨Bx,3,none⟩=some (.int .i64 x.bound):=bx.cell 3;have x4:W.cell? ⟨Bx,4,none⟩=some (.slice bA_ bl_ bc_):=bx.cell 4;have x5:W.cell? ⟨Bx,5,none⟩=some (.slice wA_ wl_ wc_):=bx.cell 5;have kV:Kept [w1.heap.size+1] w4 (w4.setCell ⟨w1.heap.size+1,0,none⟩ (.slice (some ⟨g',0,none⟩) (pl+1) cap')):=(Kept.refl _ _).set (.inl (by simp)) _;have kM:Kept (MOf (w1.heap.size+1) v) W (w4.setCell ⟨w1.heap.size+1,0,none⟩ (.slice (some ⟨g',0,none⟩) (pl+1) cap')):=((Kept.refl _ W).grown hg4 (fun q hq=>.inl (by unfold MOf;simp[hq]))).set (.inl (by simp[MOf])) _;have kM2:Kept (w1.heap.size::MOf (w1.heap.size+1) v) W (w4.setCell ⟨w1.heap.size+1,0,none⟩ (.slice (some ⟨g',0,none⟩) (pl+1) cap')):=kM.more (fun q hq=>by simp[hq])
    have hmV:∀q∈MOf (w1.heap.size+1) (.slice (some ⟨g',0,none⟩) (pl+1) cap'),q∈MOf (w1.heap.size+1) v∨W.heap.size≤q:=fun q hq=>by
     rcases MOf_mem hq with rfl | hv
     ·exact .inl (by simp[MOf])
     ·rcases hat q hv with h | h
      ·exact .inl (by unfold MOf;simp[h])
      ·exact .inr h
    have hmV2:∀q∈w1.heap.size::MOf (w1.heap.size+1) (.slice (some ⟨g',0,none⟩) (pl+1) cap'),q∈w1.heap.size::MOf (w1.heap.size+1) v∨W.heap.size≤q:=fun q hq=>by
     rcases List.mem_cons.1 hq with e | e
     ·exact .inl (by rw[e];simp)
     ·rcases hmV q e with h | h
      ·exact .inl (by simp[h])
      ·exact .inr h
    have oV:=ownsRow_keptS hown kV (fun q hq hm=>by have:=(hown.lt q hq).1;simp at hm;omega);have rV:=ho.snoc hx o1 o2 o3 (by rw[← hplen];exact oV) kM2 hmV2;rw[List.append_assoc]at rV;have bV:Blk (w4.setCell ⟨w1.heap.size+1,0,none⟩ (.slice (some ⟨g',0,none⟩) (pl+1) cap')) (w1.heap.size+1) 24 #[(.slice (some ⟨g',0,none⟩) (pl+1) cap')]:=(hb.grown hg4 hro).set_ 0 _
    have hcM:∀q∈MOf (w1.heap.size+1) v,w1.heap.size+1≤q:=fun q hq=>by
     rcases MOf_mem hq with rfl | hv
     ·omega
     ·have:=(ho.1.lt q hv).1;omega
    have hwV:Below w1.heap.size w1 (w4.setCell ⟨w1.heap.size+1,0,none⟩ (.slice (some ⟨g',0,none⟩) (pl+1) cap')):=Kept.below hw kM hw.size (fun q hq=>by have:=hcM q hq;omega);have hsV:=kM.size;have hmkV:Mks w1 (w4.setCell ⟨w1.heap.size+1,0,none⟩ (.slice (some ⟨g',0,none⟩) (pl+1) cap')) Ds:=hmk.1.kept kM (fun q hq=>(hj.cells (by omega) (by omega) q hq).2);have hfin:ShJ w1 w1.heap.size (w1.heap.size+1) (w1.heap.size+2) (sfL (p.rules.take k) N) Ds X5.heap.size (MOf (w1.heap.size+1) (.slice (some ⟨g',0,none⟩) (pl+1) cap')) (pre++[x]) (w4.setCell ⟨w1.heap.size+1,0,none⟩ (.slice (some ⟨g',0,none⟩) (pl+1) cap')):=⟨⟨hmkV,hmk.2⟩,⟨_,_,rfl,bV,rV,hwV,by omega⟩⟩
    obtain⟨HJ,HB,HO,HW,HPF,HX,O1,O2,O3,BX,HRUN,HOWN⟩:=Zq12 hj hb ho hw hpf hx o1 o2 o3 bx hrun hown;clear hj hb ho hw hpf hx o1 o2 o3 bx hrun hown
    obtain⟨HG4,HAT,HRO,KV,KM,KM2,HMV,HMV2,OV,RV,BV,HWV⟩:=Zq12 hg4 hat hro kV kM kM2 hmV hmV2 oV rV bV hwV;clear hg4 hat hro kV kM kM2 hmV hmV2 oV rV bV hwV
    obtain⟨HFIN,HMK,HMKV,HPLEN,HCM⟩:=Zq5 hfin hmk hmkV hplen hcM;clear hfin hmk hmkV hplen hcM
    gi_wp2_with (gi_at_builtin;refine wpListIn_append_run rfl _ _ _ rfl _ _ rfl rfl _ _ HRUN.out ?_)
    exact⟨_,HFIN.out,KM.out,HMV.out⟩
   case done=>
    intro D M' W hD hj he hdf;have HDF:=Zq1 hdf;clear hdf;have hmk':Mks w1 W (D::Ds):=⟨List.nodup_cons.2 ⟨fun h=>by have:=(hj.mks.2 D h).2;omega,hj.mks.1.nd⟩,fun E hE=>(List.mem_cons.1 hE).elim (fun e=>by subst e;exact⟨by have:=HBW1J.out.size;have:=HB5.out.size;omega,HDF.out⟩) (fun h=>hj.mks.1.m E h)⟩;have hDl:=hmk'.lt (List.mem_cons_self ..);have hri':=hj.ri;rw[← HTK.out]at hri'
    have he':Blk W w1.heap.size 3 #[.int .i64 (N+(sfC (p.rules.take (k+1)):Int))]:=by
     rw[HTC.out,show N+((sfC (p.rules.take k)+sfN r:Nat):Int)=N+(sfC (p.rules.take k):Int)+(sfN r:Int) by omega];exact he
    have hjn:ShJ w1 w1.heap.size (w1.heap.size+1) (w1.heap.size+2) (sfL (p.rules.take (k+1)) N) (D::Ds) W.heap.size M' [] W:=⟨⟨hmk',fun E hE=>(List.mem_cons.1 hE).elim (fun e=>by subst e;exact⟨by have:=HB5.out.size;omega,hDl⟩) (fun h=>⟨(hj.mks.2 E h).1,hj.mks.1.lt h⟩)⟩,by rw[List.append_nil];exact hri'⟩;clear hri'
    obtain⟨HJ,HE,HMK',HE',HJN⟩:=Zq5 hj he hmk' he' hjn;clear hj he hmk' he' hjn
    gi_wp2_with fail
    refine⟨⟨_,_,_,_,_,_,_,_,_,_,_,_,_,_,_,D::Ds,k+1,W.heap.size,M',⟨by omega,by go_num,HJN.out,HE'.out⟩,rfl⟩,?_⟩
    simp[intOf];omega
   case stop=>
    intro D c pre W _ _ h;exact h.elim
  ·obtain rfl:rl=k:=(by omega);have htk:p.rules.take rl=p.rules:=List.take_of_length_le (by have:=HRL.out;omega);rw[htk]at hj hcn;have hbP:=BP1.out.bel hj.bel;have hbZ:=BZ1.out.bel hj.bel
   obtain⟨v,cs,hMe,hbx,hor,hbl,hsz⟩:=hj.ri
   rw[List.append_nil]at hor;have hmk:=hj.mks.1;have hlen:(sfL p.rules N).length≤40000:=(by have:=HSO.out.l;rwa [HN.out]at this)
   obtain⟨qA,qc,hve,-⟩:=hor.sl (by omega)
   subst hve
   obtain⟨ql,hql⟩:∃ql,ql=(sfL p.rules N).length:=⟨_,rfl⟩
   rw[← hql]at hbx;have hP:=pcells hbP
   obtain⟨p0,p1,p2,p3,p4,p5⟩:=hP
   have z11:(wo.alloc (.cells #[.int .i64 N,.slice nA nl nc,.slice sA sl sc,.slice rA rl rc,.slice mA ml mc] 27)).frozen? ⟨wo.heap.size,3,none⟩=false:=(Blk.new wo 27 #[.int .i64 N,.slice nA nl nc,.slice sA sl sc,.slice rA rl rc,.slice mA ml mc]).frozen 3;have c11:(wo.alloc (.cells #[.int .i64 N,.slice nA nl nc,.slice sA sl sc,.slice rA rl rc,.slice mA ml mc] 27)).cell? ⟨wo.heap.size,3,none⟩=some (.slice rA rl rc):=(Blk.new wo 27 #[.int .i64 N,.slice nA nl nc,.slice sA sl sc,.slice rA rl rc,.slice mA ml mc]).cell 3;have bV:Blk (wo.alloc (.cells #[.int .i64 N,.slice nA nl nc,.slice sA sl sc,.slice none 0 0,.slice mA ml mc] 27)) wo.heap.size 27 #[.int .i64 N,.slice nA nl nc,.slice sA sl sc,.slice none 0 0,.slice mA ml mc]:=blk_new rfl _ _;have bpl:=hbP.lt;have bzl:=hbZ.lt;have bcl:=hcn.lt;have bxl:=hbx.lt;have bPV:Blk (wo.alloc (.cells #[.int .i64 N,.slice nA nl nc,.slice sA sl sc,.slice none 0 0,.slice mA ml mc] 27)) w.heap.size 27 #[.int .i64 N,.slice nA nl nc,.slice sA sl sc,.slice rA rl rc,.slice mA ml mc]:=hbP.alloc _;have bZV:Blk (wo.alloc (.cells #[.int .i64 N,.slice nA nl nc,.slice sA sl sc,.slice none 0 0,.slice mA ml mc] 27)) (w.heap.size+1) 27 #[.int .i64 0,.slice none 0 0,.slice none 0 0,.slice none 0 0,.slice none 0 0]:=hbZ.alloc _;have bCV:Blk (wo.alloc (.cells #[.int .i64 N,.slice nA nl nc,.slice sA sl sc,.slice none 0 0,.slice mA ml mc] 27)) w1.heap.size 3 #[.int .i64 (N+(sfC p.rules:Int))]:=hcn.alloc _;have bXV:Blk (wo.alloc (.cells #[.int .i64 N,.slice nA nl nc,.slice sA sl sc,.slice none 0 0,.slice mA ml mc] 27)) (w1.heap.size+1) 24 #[.slice qA ql qc]:=hbx.alloc _;have hbV:Below wo.heap.size wo (wo.alloc (.cells #[.int .i64 N,.slice nA nl nc,.slice sA sl sc,.slice none 0 0,.slice mA ml mc] 27)):=bel_alloc _ _
   have horV:OutRow (wo.alloc (.cells #[.int .i64 N,.slice nA nl nc,.slice sA sl sc,.slice none 0 0,.slice mA ml mc] 27)) (w1.heap.size+2) (.slice qA (sfL p.rules N).length qc) cs (w1.heap.size::M) (sfL p.rules N):=by
    refine⟨hor.1.alloc _,fun i x hx=>?_⟩
    obtain⟨hA,hl,hc,bA,bl,bc,wA,wl,wc,h1,h2,h3,h4,h5⟩:=hor.2 i x hx
    exact⟨hA,hl,hc,bA,bl,bc,wA,wl,wc,h1,h2.ext hbV,h3,h4,h5⟩
   have hmkV:=hmk.bel hbV;have hVw:Below w.heap.size w (wo.alloc (.cells #[.int .i64 N,.slice nA nl nc,.slice sA sl sc,.slice none 0 0,.slice mA ml mc] 27)):=bel_trans BW1.out (bel_trans hbl hbV);have hVs:wo.heap.size<(wo.alloc (.cells #[.int .i64 N,.slice nA nl nc,.slice sA sl sc,.slice none 0 0,.slice mA ml mc] 27)).heap.size:=bV.lt;clear hMe hor hbl hbx hbP hbZ hmk hbV
   obtain⟨HJ,HCN,HTK,BV,BPV,BZV,BCV,BXV,HORV,HMKV,HVW,HQL⟩:=Zq12 hj hcn htk bV bPV bZV bCV bXV horV hmkV hVw hql;clear hj hcn htk bV bPV bZV bCV bXV horV hmkV hVw hql
   have HLEN:=Zq1 hlen;clear hlen;gi_wp2_with fail;clear p0 p1 p2 p3 p4 p5 z11 c11;generalize (wo.alloc (.cells #[.int .i64 N,.slice nA nl nc,.slice sA sl sc,.slice none 0 0,.slice mA ml mc] 27))=V at *;have hsn2:N+(sfC p.rules:Int)≤4000:=(by have:=HSO.out.n;rwa [HN.out]at this);have HSN2:=Zq1 hsn2;clear hsn2;have hqll:ql≤40000:=(by have:=HQL.out;have:=HLEN.out;omega)
   have hce:∀W,Below w.heap.size w W→w.heap.size+1<W.heap.size→(∀D∈Ds,D<W.heap.size)→OutRow W (w1.heap.size+2) (.slice qA (sfL p.rules N).length qc) cs (w1.heap.size::M) (sfL p.rules N) →
     Calls Tryz.prog 30 #[.agg #[.int .i64 N,.slice nA nl nc,.slice sA sl sc,.slice none 0 0,.slice mA ml mc],.int .i64 (sfC p.rules:Int),.slice qA ql qc] W fun e w'=>∃(nA':OA) (nl' nc':Nat) (sA':OA) (sl' sc':Nat) (rA':OA) (rl' rc':Nat) (mA':OA) (ml' mc':Nat),
      e=.returned (.tuple #[.agg #[.int .i64 (sfP p).n,.slice nA' nl' nc',.slice sA' sl' sc',.slice rA' rl' rc',.slice mA' ml' mc'],.int .i64 0])∧(∀X,Kept ((w.heap.size+1)::(Ds++Eo)) w' X→ProgIn X (sfP p) nA' nl' nc' sA' sl' sc' rA' rl' rc' mA' ml' mc')∧Below W.heap.size W w':=fun W h1 h2 h4 h3=>by
    obtain⟨A',c',he,hsl⟩:=h3.sl (by have:=HLEN.out;omega)
    injection he with e1 _ e2;subst e1 e2;rw[← HQL.out]at hsl;have hpb:ProgIn v0 p nA nl nc sA sl sc rA rl rc mA ml mc:=HPZ.out;have hsz:=val_sizes hpb HV.out;have hvb:validE { p with rules:=[] }=0:=ex_validE ⟨HI.out.named,by simp,by simp,HI.out.mins,HI.out.min⟩
    have h:=extend_off { p with rules:=[] } nA nl nc sA sl sc none 0 0 mA ml mc (sfC p.rules) qA ql qc (sfL p.rules N) v0 W (bel_trans HVZ.out h1) ((w.heap.size+1)::(Ds++Eo)) (fun q hq=>by
      have hvw:=HVZ.out.size;rcases List.mem_cons.1 hq with e | hq
      ·omega
      ·rcases List.mem_append.1 hq with hq | hq
       ·have h5:=(HJ.out.mks.2 q hq).1;have h6:=HS1.out
        exact⟨by omega,h4 q hq⟩
       ·have h5:=HEO.out q hq
        exact⟨h5.1,by omega⟩) ⟨hpb.n,hpb.names,hpb.shown,SlIs.nil _ _,hpb.min⟩ hvb
     (by show p.n+_≤4000;rw[HN.out];exact HSN2.out) hsz.1 (by intro r hr;cases hr) hsz.2 hsl (by omega) (by have:=sf_pre HI.out HSO.out.n;rw[show sfL p.rules N=sfL p.rules p.n by rw[HN.out]];exact this)
    have e3:extP { p with rules:=[] } (sfC p.rules) (sfL p.rules N)=sfP p:=(by unfold sfP;rw[HN.out]);have e4:({ p with rules:=[] }:GProg).n+(sfC p.rules:Int)=(sfP p).n:=rfl;rw[e3,e4]at h;have e5:({ p with rules:=[] }:GProg).n=N:=HN.out;rw[e5]at h;exact h
   have hw12:w.heap.size+2≤w1.heap.size:=HS1.out;have hb11:=BXV.out.lt;have hwo:w1.heap.size+1<wo.heap.size:=bxl;have HCE:=Zq1 hce;clear hce;refine wpIn_wide.2 ?_;refine wp_region_inv (fun listed a' w'=>∃(b0 b1 b2 b3 b4 b5 b6 b7 b8 b9 b10 b11 b12:Bool) (u47 u48 u49 u50 u51 u52 u53 u54 u55 u56 u57 u3:Value),listed=#[b0,b1,b2,b3,b4,b5,b6,b7,b8,b9,b10,b11,b12]∧a'={ tmps:=#[.agg #[.int .i64 N,.slice nA nl nc,.slice sA sl sc,.slice rA rl rc,.slice mA ml mc],.pointer (some ⟨w.heap.size,0,none⟩),.pointer (some ⟨w.heap.size+1,0,none⟩),u3,.bool true,.int .i64 0,Value.func (Fn.func 100) #[] #[.pointer (some ⟨w1.heap.size,0,none⟩)],.pointer (some ⟨w1.heap.size+1,0,none⟩),undef,u9,u10,.pointer (some ⟨wo.heap.size,0,none⟩),Value.tuple #[.bool true,.int .i64 0],.agg #[.int .i64 N,.slice nA nl nc,.slice sA sl sc,.slice rA rl rc,.slice mA ml mc],Value.tuple #[.bool true,.int .i64 0],.bool true,.int .i64 0,.bool false,.int .i64 0,.bool false,undef,undef,.bool false,.bool true,.bool false,undef,.pointer (some ⟨w.heap.size,0,none⟩),.int .i64 N,Value.func (Fn.func 100) #[] #[.pointer (some ⟨w1.heap.size,0,none⟩)],.pointer (some ⟨w.heap.size,3,none⟩),.slice rA rl rc,.int .i64 (rl:Int),.int .i64 (rl:Int),.bool false,u34,u35,u36,u37,u38,u39,u40,u41,u42,u43,u44,.agg #[.int .i64 N,.slice nA nl nc,.slice sA sl sc,.slice rA rl rc,.slice mA ml mc],.pointer (some ⟨wo.heap.size,3,none⟩),u47,u48,u49,u50,u51,u52,u53,u54,u55,u56,u57],defers:=Ds.map mkD }∧(Kept [w1.heap.size,w.heap.size+1] V w')∧(b11=false→Kept [w1.heap.size] V w')∧(b2=false→Blk w' w1.heap.size 3 #[.int .i64 (N+(sfC p.rules:Int))])∧(b11=false→Blk w' (w.heap.size+1) 27 #[.int .i64 0,.slice none 0 0,.slice none 0 0,.slice none 0 0,.slice none 0 0])∧(b0=true→u47=.agg #[.int .i64 N,.slice nA nl nc,.slice sA sl sc,.slice none 0 0,.slice mA ml mc])∧(b1=true→u48=.func (.func 100) #[] #[.pointer (some ⟨w1.heap.size,0,none⟩)])∧(b2=true→u49=.int .i64 (N+(sfC p.rules:Int)+1))∧(b3=true→u50=.int .i64 (N+(sfC p.rules:Int)))∧(b4=true→u51=.pointer (some ⟨w.heap.size,0,none⟩))∧(b5=true→u52=.int .i64 N)∧(b6=true→u53=.int .i64 (sfC p.rules:Int))∧(b7=true→u54=.slice qA ql qc)∧(b8=true→∃(nE:OA) (lE cE:Nat) (sE:OA) (kE dE:Nat) (rE:OA) (mE fE2:Nat) (tE:OA) (iE jE:Nat),u55=.tuple #[.agg #[.int .i64 (sfP p).n,.slice nE lE cE,.slice sE kE dE,.slice rE mE fE2,.slice tE iE jE],.int .i64 0]∧(∀X,Kept ((w.heap.size+1)::(Ds++Eo)) w' X→ProgIn X (sfP p) nE lE cE sE kE dE rE mE fE2 tE iE jE)∧(b9=true→u56=.agg #[.int .i64 (sfP p).n,.slice nE lE cE,.slice sE kE dE,.slice rE mE fE2,.slice tE iE jE])∧(b11=true→Blk w' (w.heap.size+1) 27 #[.int .i64 (sfP p).n,.slice nE lE cE,.slice sE kE dE,.slice rE mE fE2,.slice tE iE jE]))∧(b10=true→u57=.int .i64 0)∧(b12=true→u3=.int .i64 0)∧(b3=true→b2=true)∧(b6=true→b3=true)∧(b8=true→b6=true)∧(b9=true→b8=true)∧(b10=true→b8=true)∧(b11=true→b9=true)∧(b12=true→b10=true)) (by kernel_rfl) ?start ?step ?_
   case start=>exact⟨false,false,false,false,false,false,false,false,false,false,false,false,false,_,_,_,_,_,_,_,_,_,_,_,_,rfl,rfl,(Kept.refl _ _).drew,(fun _=>(Kept.refl _ _).drew),(fun _=>BCV.out.drew),(fun _=>BZV.out.drew),(by simp),(by simp),(by simp),(by simp),(by simp),(by simp),(by simp),(by simp),(by simp),(by simp),(by simp),(by simp),(by simp),(by simp),(by simp),(by simp),(by simp),(by simp)⟩
   case step=>
    rintro listed a' w' i o ⟨b0,b1,b2,b3,b4,b5,b6,b7,b8,b9,b10,b11,b12,u47,u48,u49,u50,u51,u52,u53,u54,u55,u56,u57,u3,rfl,rfl,hk0,hk1,fC,fZ,f0,f1,f2,f3,f4,f5,f6,f7,fE,f10,f12,c3,c6,c8,c9,c10,c11,c12⟩ ho hli hd K hK;have Zqx:=fun i h=>hd ⟨i,.data⟩ h rfl
    match i,ho,hli,hd with
    |0,ho,hli,hd=>
     obtain⟨rfl,rfl⟩:_∧b0=false:=Zqj ho hli;have hxc:=hk0.blk BV.out (by simp;omega)
     obtain⟨p0,p1,p2,p3,p4,p5⟩:=pcells hxc
     clear hxc;have HH:=Zq1 (And.intro c3 (And.intro c6 (And.intro c8 (And.intro c9 (And.intro c10 (And.intro c11 c12))))));clear c3 c6 c8 c9 c10 c11 c12;have HFE:=Zq1 fE;clear fE;go_simp;exact hK _ _ ⟨_,_,_,_,_,_,_,_,_,_,_,_,_,_,_,_,_,_,_,_,_,_,_,_,_,rfl,rfl,hk0,hk1,fC,fZ,(fun _=>rfl),f1,f2,f3,f4,f5,f6,f7,HFE.out,f10,f12,HH.out.1,HH.out.2.1,HH.out.2.2.1,HH.out.2.2.2.1,HH.out.2.2.2.2.1,HH.out.2.2.2.2.2.1,HH.out.2.2.2.2.2.2⟩
    |1,ho,hli,hd=>obtain⟨rfl,rfl⟩:_∧b1=false:=Zqj ho hli;have HH:=Zq1 (And.intro c3 (And.intro c6 (And.intro c8 (And.intro c9 (And.intro c10 (And.intro c11 c12))))));clear c3 c6 c8 c9 c10 c11 c12;have HFE:=Zq1 fE;clear fE;go_simp;exact hK _ _ ⟨_,_,_,_,_,_,_,_,_,_,_,_,_,_,_,_,_,_,_,_,_,_,_,_,_,rfl,rfl,hk0,hk1,fC,fZ,f0,(fun _=>rfl),f2,f3,f4,f5,f6,f7,HFE.out,f10,f12,HH.out.1,HH.out.2.1,HH.out.2.2.1,HH.out.2.2.2.1,HH.out.2.2.2.2.1,HH.out.2.2.2.2.2.1,HH.out.2.2.2.2.2.2⟩
    |2,ho,hli,hd=>
     obtain⟨rfl,rfl⟩:_∧b2=false:=Zqj ho hli;obtain rfl:b1=true:=Zqx 1 (by simp);obtain rfl:=f1 rfl
     have e3:b3=false:=by
      cases hh:b3 with
      |false=>rfl
      |true=>have:=c3 hh;cases this
     subst e3
     have e6:b6=false:=by
      cases hh:b6 with
      |false=>rfl
      |true=>have:=c6 hh;cases this
     subst e6
     have e8:b8=false:=by
      cases hh:b8 with
      |false=>rfl
      |true=>have:=c8 hh;cases this
     subst e8
     have e9:b9=false:=by
      cases hh:b9 with
      |false=>rfl
      |true=>have:=c9 hh;cases this
     subst e9
     have e11:b11=false:=by
      cases hh:b11 with
      |false=>rfl
      |true=>have:=c11 hh;cases this
     subst e11
     have e10:b10=false:=by
      cases hh:b10 with
      |false=>rfl
      |true=>have:=c10 hh;cases this
     subst e10;have cK:=counter1_any w1.heap.size (N+(sfC p.rules:Int)) w' (fC rfl) (by omega) (by have:=HSN2.out;omega);have hk:Kept [w1.heap.size,w.heap.size+1] w' (w'.setCell ⟨w1.heap.size,0,none⟩ (.int .i64 (N+(sfC p.rules:Int)+1))):=(Kept.refl _ _).set (.inl (by simp)) _;have hkc:Kept [w1.heap.size] w' (w'.setCell ⟨w1.heap.size,0,none⟩ (.int .i64 (N+(sfC p.rules:Int)+1))):=(Kept.refl _ _).set (.inl (by simp)) _;have hzz:=(fZ rfl).far (p:=⟨w1.heap.size,0,none⟩) (by simp;omega) (.int .i64 (N+(sfC p.rules:Int)+1));have HH:=Zq1 (And.intro c3 (And.intro c6 (And.intro c8 (And.intro c9 (And.intro c10 (And.intro c11 c12))))));clear c3 c6 c8 c9 c10 c11 c12;have HFE:=Zq1 fE;clear fE;go_simp;refine cK.mono ?_;rintro e v ⟨rfl,rfl⟩;exact hK _ _ ⟨_,_,_,_,_,_,_,_,_,_,_,_,_,_,_,_,_,_,_,_,_,_,_,_,_,rfl,rfl,(hk0.trans hk),(fun e=>(hk1 e).trans hkc),(fun e=>by cases e),(fun _=>hzz),f0,f1,(fun _=>rfl),f3,f4,f5,f6,f7,(fun e=>by cases e),f10,f12,(fun e=>by cases e),(fun e=>by cases e),(fun e=>by cases e),(fun e=>by cases e),(fun e=>by cases e),(fun e=>by cases e),HH.out.2.2.2.2.2.2⟩
    |3,ho,hli,hd=>obtain⟨rfl,rfl⟩:_∧b3=false:=Zqj ho hli;obtain rfl:b2=true:=Zqx 2 (by simp);obtain rfl:=f2 rfl;have z1:IntKind.i64.wrap (N+(sfC p.rules:Int)+1-1)=N+(sfC p.rules:Int):=(by rw[show N+(sfC p.rules:Int)+1-1=N+(sfC p.rules:Int) by omega];exact IntWalk.i64_in _ (by have:=HSN2.out;omega));have z2:N+(sfC p.rules:Int)+1-1=N+(sfC p.rules:Int):=(by omega);have z3:IntKind.i64.wrap (N+(sfC p.rules:Int))=N+(sfC p.rules:Int):=IntWalk.i64_in _ (by have:=HSN2.out;omega);have HH:=Zq1 (And.intro c3 (And.intro c6 (And.intro c8 (And.intro c9 (And.intro c10 (And.intro c11 c12))))));clear c3 c6 c8 c9 c10 c11 c12;have HFE:=Zq1 fE;clear fE;go_simp;exact hK _ _ ⟨_,_,_,_,_,_,_,_,_,_,_,_,_,_,_,_,_,_,_,_,_,_,_,_,_,rfl,rfl,hk0,hk1,fC,fZ,f0,f1,f2,(fun _=>rfl),f4,f5,f6,f7,HFE.out,f10,f12,(fun _=>rfl),(fun _=>rfl),HH.out.2.2.1,HH.out.2.2.2.1,HH.out.2.2.2.2.1,HH.out.2.2.2.2.2.1,HH.out.2.2.2.2.2.2⟩
    |4,ho,hli,hd=>obtain⟨rfl,rfl⟩:_∧b4=false:=Zqj ho hli;have HH:=Zq1 (And.intro c3 (And.intro c6 (And.intro c8 (And.intro c9 (And.intro c10 (And.intro c11 c12))))));clear c3 c6 c8 c9 c10 c11 c12;have HFE:=Zq1 fE;clear fE;go_simp;exact hK _ _ ⟨_,_,_,_,_,_,_,_,_,_,_,_,_,_,_,_,_,_,_,_,_,_,_,_,_,rfl,rfl,hk0,hk1,fC,fZ,f0,f1,f2,f3,(fun _=>rfl),f5,f6,f7,HFE.out,f10,f12,HH.out.1,HH.out.2.1,HH.out.2.2.1,HH.out.2.2.2.1,HH.out.2.2.2.2.1,HH.out.2.2.2.2.2.1,HH.out.2.2.2.2.2.2⟩
    |5,ho,hli,hd=>obtain⟨rfl,rfl⟩:_∧b5=false:=Zqj ho hli;obtain rfl:b4=true:=Zqx 4 (by simp);obtain rfl:=f4 rfl;have hm:w'.cell? ⟨w.heap.size,0,none⟩=some (.int .i64 N):=(hk0.blk BPV.out (by simp;omega)).cell 0;have HH:=Zq1 (And.intro c3 (And.intro c6 (And.intro c8 (And.intro c9 (And.intro c10 (And.intro c11 c12))))));clear c3 c6 c8 c9 c10 c11 c12;have HFE:=Zq1 fE;clear fE;go_simp;exact hK _ _ ⟨_,_,_,_,_,_,_,_,_,_,_,_,_,_,_,_,_,_,_,_,_,_,_,_,_,rfl,rfl,hk0,hk1,fC,fZ,f0,f1,f2,f3,f4,(fun _=>rfl),f6,f7,HFE.out,f10,f12,HH.out.1,HH.out.2.1,HH.out.2.2.1,HH.out.2.2.2.1,HH.out.2.2.2.2.1,HH.out.2.2.2.2.2.1,HH.out.2.2.2.2.2.2⟩
    |6,ho,hli,hd=>obtain⟨rfl,rfl⟩:_∧b6=false:=Zqj ho hli;obtain rfl:b3=true:=Zqx 3 (by simp);obtain rfl:b5=true:=Zqx 5 (by simp);obtain rfl:=f3 rfl;obtain rfl:=f5 rfl;have z1:IntKind.i64.wrap (N+(sfC p.rules:Int)-N)=(sfC p.rules:Int):=(by rw[show N+(sfC p.rules:Int)-N=(sfC p.rules:Int) by omega];exact IntWalk.i64_in _ (by have:=HSN2.out;omega));have z2:N+(sfC p.rules:Int)-N=(sfC p.rules:Int):=(by omega);have z3:IntKind.i64.wrap (sfC p.rules:Int)=(sfC p.rules:Int):=IntWalk.i64_in _ (by have:=HSN2.out;omega);have HH:=Zq1 (And.intro c3 (And.intro c6 (And.intro c8 (And.intro c9 (And.intro c10 (And.intro c11 c12))))));clear c3 c6 c8 c9 c10 c11 c12;have HFE:=Zq1 fE;clear fE;go_simp;exact hK _ _ ⟨_,_,_,_,_,_,_,_,_,_,_,_,_,_,_,_,_,_,_,_,_,_,_,_,_,rfl,rfl,hk0,hk1,fC,fZ,f0,f1,f2,f3,f4,f5,(fun _=>rfl),f7,HFE.out,f10,f12,HH.out.1,(fun _=>rfl),(fun _=>rfl),HH.out.2.2.2.1,HH.out.2.2.2.2.1,HH.out.2.2.2.2.2.1,HH.out.2.2.2.2.2.2⟩
    |7,ho,hli,hd=>obtain⟨rfl,rfl⟩:_∧b7=false:=Zqj ho hli;have hm:w'.cell? ⟨w1.heap.size+1,0,none⟩=some (.slice qA ql qc):=(hk0.blk BXV.out (by simp;omega)).cell 0;have HH:=Zq1 (And.intro c3 (And.intro c6 (And.intro c8 (And.intro c9 (And.intro c10 (And.intro c11 c12))))));clear c3 c6 c8 c9 c10 c11 c12;have HFE:=Zq1 fE;clear fE;go_simp;exact hK _ _ ⟨_,_,_,_,_,_,_,_,_,_,_,_,_,_,_,_,_,_,_,_,_,_,_,_,_,rfl,rfl,hk0,hk1,fC,fZ,f0,f1,f2,f3,f4,f5,f6,(fun _=>rfl),HFE.out,f10,f12,HH.out.1,HH.out.2.1,HH.out.2.2.1,HH.out.2.2.2.1,HH.out.2.2.2.2.1,HH.out.2.2.2.2.2.1,HH.out.2.2.2.2.2.2⟩
    |8,ho,hli,hd=>
     obtain⟨rfl,rfl⟩:_∧b8=false:=Zqj ho hli;obtain rfl:b0=true:=Zqx 0 (by simp);obtain rfl:b6=true:=Zqx 6 (by simp);obtain rfl:b7=true:=Zqx 7 (by simp);obtain rfl:=f0 rfl;obtain rfl:=f6 rfl;obtain rfl:=f7 rfl
     have e9:b9=false:=by
      cases hh:b9 with
      |false=>rfl
      |true=>have:=c9 hh;cases this
     subst e9
     have e11:b11=false:=by
      cases hh:b11 with
      |false=>rfl
      |true=>have:=c11 hh;cases this
     subst e11
     have e10:b10=false:=by
      cases hh:b10 with
      |false=>rfl
      |true=>have:=c10 hh;cases this
     subst e10;have hBw:=Kept.below HVW.out hk0 HVW.out.size (fun q hq=>by simp at hq;omega);have hVs:=hk0.size;have hor:=HORV.out.keptC (by omega) (hk1 rfl);have cX:=HCE.out w' hBw (by omega) (fun D hD=>Nat.lt_of_lt_of_le (HMKV.out.lt hD) hVs) hor;have HH:=Zq1 (And.intro c3 (And.intro c6 (And.intro c8 (And.intro c9 (And.intro c10 (And.intro c11 c12))))));clear c3 c6 c8 c9 c10 c11 c12;have HFE:=Zq1 fE;clear fE;go_simp;refine cX.mono ?_;rintro e v ⟨nE,lE,cE,sE,kE,dE,rE,mE,fE2,tE,iE,jE,rfl,hP,hb⟩;exact hK _ _ ⟨_,_,_,_,_,_,_,_,_,_,_,_,_,_,_,_,_,_,_,_,_,_,_,_,_,rfl,rfl,(hk0.bel hb),(fun e=>(hk1 e).bel hb),(fun e=>(fC e).bel hb),(fun e=>(fZ e).bel hb),f0,f1,f2,f3,f4,f5,f6,f7,(fun _=>⟨_,_,_,_,_,_,_,_,_,_,_,_,rfl,hP,(fun e=>by cases e),(fun e=>by cases e)⟩),f10,f12,HH.out.1,HH.out.2.1,(fun _=>rfl),(fun e=>by cases e),(fun e=>by cases e),(fun e=>by cases e),HH.out.2.2.2.2.2.2⟩
    |9,ho,hli,hd=>
     obtain⟨rfl,rfl⟩:_∧b9=false:=Zqj ho hli;obtain rfl:b8=true:=Zqx 8 (by simp)
     obtain⟨nE,lE,cE,sE,kE,dE,rE,mE,fE2,tE,iE,jE,rfl,q2,q3,q4⟩:=fE rfl
     have fE:=True.intro
     have e11:b11=false:=by
      cases hh:b11 with
      |false=>rfl
      |true=>have:=c11 hh;cases this
     subst e11;have HH:=Zq1 (And.intro c3 (And.intro c6 (And.intro c8 (And.intro c9 (And.intro c10 (And.intro c11 c12))))));clear c3 c6 c8 c9 c10 c11 c12;have HFE:=Zq1 fE;clear fE;go_simp;exact hK _ _ ⟨_,_,_,_,_,_,_,_,_,_,_,_,_,_,_,_,_,_,_,_,_,_,_,_,_,rfl,rfl,hk0,hk1,fC,fZ,f0,f1,f2,f3,f4,f5,f6,f7,(fun _=>⟨_,_,_,_,_,_,_,_,_,_,_,_,rfl,q2,fun _=>rfl,(fun e=>by cases e)⟩),f10,f12,HH.out.1,HH.out.2.1,HH.out.2.2.1,(fun _=>rfl),HH.out.2.2.2.2.1,(fun e=>by cases e),HH.out.2.2.2.2.2.2⟩
    |10,ho,hli,hd=>
     obtain⟨rfl,rfl⟩:_∧b10=false:=Zqj ho hli;obtain rfl:b8=true:=Zqx 8 (by simp)
     obtain⟨nE,lE,cE,sE,kE,dE,rE,mE,fE2,tE,iE,jE,rfl,q2,q3,q4⟩:=fE rfl
     have fE:=True.intro;have Q3:=Zq1 q3;have Q4:=Zq1 q4;clear q3 q4
     have e12:b12=false:=by
      cases hh:b12 with
      |false=>rfl
      |true=>have:=c12 hh;cases this
     subst e12;have HH:=Zq1 (And.intro c3 (And.intro c6 (And.intro c8 (And.intro c9 (And.intro c10 (And.intro c11 c12))))));clear c3 c6 c8 c9 c10 c11 c12;have HFE:=Zq1 fE;clear fE;go_simp;exact hK _ _ ⟨_,_,_,_,_,_,_,_,_,_,_,_,_,_,_,_,_,_,_,_,_,_,_,_,_,rfl,rfl,hk0,hk1,fC,fZ,f0,f1,f2,f3,f4,f5,f6,f7,(fun _=>⟨_,_,_,_,_,_,_,_,_,_,_,_,rfl,q2,Q3.out,Q4.out⟩),(fun _=>rfl),f12,HH.out.1,HH.out.2.1,HH.out.2.2.1,HH.out.2.2.2.1,(fun _=>rfl),HH.out.2.2.2.2.2.1,(fun e=>by cases e)⟩
    |11,ho,hli,hd=>
     obtain⟨rfl,rfl⟩:_∧b11=false:=Zqj ho hli;obtain rfl:b9=true:=Zqx 9 (by simp);have e8:=c9 rfl;subst e8
     obtain⟨nE,lE,cE,sE,kE,dE,rE,mE,fE2,tE,iE,jE,rfl,q2,q3,q4⟩:=fE rfl
     obtain rfl:=q3 rfl;have hz:=fZ rfl;have hk:Kept [w1.heap.size,w.heap.size+1] w' (w'.setRow (w.heap.size+1) #[.int .i64 (sfP p).n,.slice nE lE cE,.slice sE kE dE,.slice rE mE fE2,.slice tE iE jE]):=(Kept.refl _ _).row (.inl (by simp)) _;have hkb:Kept [w.heap.size+1] w' (w'.setRow (w.heap.size+1) #[.int .i64 (sfP p).n,.slice nE lE cE,.slice sE kE dE,.slice rE mE fE2,.slice tE iE jE]):=(Kept.refl _ _).row (.inl (by simp)) _;have hcc:b2=false→Blk (w'.setRow (w.heap.size+1) #[.int .i64 (sfP p).n,.slice nE lE cE,.slice sE kE dE,.slice rE mE fE2,.slice tE iE jE]) w1.heap.size 3 #[.int .i64 (N+(sfC p.rules:Int))]:=fun e=>hkb.blk (fC e) (by simp;omega);refine step_row rfl _ _ _ rfl (w.heap.size+1) #[.int .i64 (sfP p).n,.slice nE lE cE,.slice sE kE dE,.slice rE mE fE2,.slice tE iE jE] rfl rfl 27 #[.int .i64 0,.slice none 0 0,.slice none 0 0,.slice none 0 0,.slice none 0 0] hz info_prog' rfl (by simp[Value.oneCell']) ?_;exact hK _ _ ⟨_,_,_,_,_,_,_,_,_,_,_,_,_,_,_,_,_,_,_,_,_,_,_,_,_,rfl,rfl,(hk0.trans hk),(fun e=>by cases e),hcc,(fun e=>by cases e),f0,f1,f2,f3,f4,f5,f6,f7,(fun _=>⟨_,_,_,_,_,_,_,_,_,_,_,_,rfl,fun X hX=>q2 X ((hkb.more (by simp)).trans hX),fun _=>rfl,fun _=>hz.row _⟩),f10,f12,c3,c6,c8,c9,c10,(fun _=>rfl),c12⟩
    |12,ho,hli,hd=>obtain⟨rfl,rfl⟩:_∧b12=false:=Zqj ho hli;obtain rfl:b10=true:=Zqx 10 (by simp);obtain rfl:=f10 rfl;have HH:=Zq1 (And.intro c3 (And.intro c6 (And.intro c8 (And.intro c9 (And.intro c10 (And.intro c11 c12))))));clear c3 c6 c8 c9 c10 c11 c12;have HFE:=Zq1 fE;clear fE;go_simp;exact hK _ _ ⟨_,_,_,_,_,_,_,_,_,_,_,_,_,_,_,_,_,_,_,_,_,_,_,_,_,rfl,rfl,hk0,hk1,fC,fZ,f0,f1,f2,f3,f4,f5,f6,f7,HFE.out,f10,(fun _=>rfl),HH.out.1,HH.out.2.1,HH.out.2.2.1,HH.out.2.2.2.1,HH.out.2.2.2.2.1,HH.out.2.2.2.2.2.1,(fun _=>rfl)⟩
    |i+13,ho,hli,hd=>simp at ho
   rintro listed a' w' ⟨b0,b1,b2,b3,b4,b5,b6,b7,b8,b9,b10,b11,b12,u47,u48,u49,u50,u51,u52,u53,u54,u55,u56,u57,u3,rfl,rfl,hk0,hk1,fC,fZ,f0,f1,f2,f3,f4,f5,f6,f7,fE,f10,f12,c3,c6,c8,c9,c10,c11,c12⟩ hr;obtain rfl:b0=true:=Zqn hr 0 rfl;obtain rfl:b1=true:=Zqn hr 1 rfl;obtain rfl:b2=true:=Zqn hr 2 rfl;obtain rfl:b3=true:=Zqn hr 3 rfl;obtain rfl:b4=true:=Zqn hr 4 rfl;obtain rfl:b5=true:=Zqn hr 5 rfl;obtain rfl:b6=true:=Zqn hr 6 rfl;obtain rfl:b7=true:=Zqn hr 7 rfl;obtain rfl:b8=true:=Zqn hr 8 rfl;obtain rfl:b9=true:=Zqn hr 9 rfl;obtain rfl:b10=true:=Zqn hr 10 rfl;obtain rfl:b11=true:=Zqn hr 11 rfl;obtain rfl:b12=true:=Zqn hr 12 rfl;clear hr
   obtain⟨nE,lE,cE,sE,kE,dE,rE,mE,fE2,tE,iE,jE,rfl,q2,q3,q4⟩:=fE rfl
   obtain rfl:=f12 rfl;have hbx:=q4 rfl
   have hmk:Mks w1 w' Ds:=⟨HMKV.out.nd,fun D hD=>⟨(HMKV.out.m D hD).1,(hk0.block D (HMKV.out.lt hD) (fun hq=>by
    rcases List.mem_cons.1 hq with e | hq
    ·have:=(HJ.out.mks.2 D hD).1;omega
    ·have:=(HMKV.out.m D hD).1;simp at hq;omega)).trans (HMKV.out.m D hD).2⟩⟩
   have hbw:=Kept.below HVW.out hk0 HVW.out.size (fun q hq=>by simp at hq;omega)
   obtain⟨HBX,HMK,HBW,Q2⟩:=Zq4 hbx hmk hbw q2;clear hbx hmk hbw q2
   clear hk0 hk1 fC fZ f0 f1 f2 f3 f4 f5 f6 f7 fE f10 f12 c3 c6 c8 c9 c10 c11 c12 q3 q4;gi_wp2_with fail;refine leaves_marks Ds _ HMK.out fun W' hk'=>?_
   have hmm:∀D∈Ds,∀o,w'.heap[D]? = some o→o.isCells=false:=fun D hD o h=>by
    rw[(HMK.out.m D hD).2]at h;cases h;rfl
   have hbx':=hk'.blk HBX.out (fun hD=>by have:=hmm _ hD _ HBX.out;cases this)
   exact⟨_,results_row_tmp rfl _ _ (w.heap.size+1) 27 #[.int .i64 (sfP p).n,.slice nE lE cE,.slice sE kE dE,.slice rE mE fE2,.slice tE iE jE] _ (.int .i64 0) rfl rfl hbx' Tryz.underlying27 rfl info_prog',nE,lE,cE,sE,kE,dE,rE,mE,fE2,tE,iE,jE,rfl,fun X hX=>Q2.out X ((hk'.more (fun q hq=>by simp[hq])).trans (hX.more (fun q hq=>by simp[hq]))),Kept.below HBW.out hk' HBW.out.size (fun D hD=>by have:=(HMK.out.m D hD).1;omega)⟩
theorem shift_any (p:GProg)(nA:OA)(nl nc:Nat)(sA:OA)(sl sc:Nat)(rA:OA)(rl rc:Nat)(mA:OA)(ml mc:Nat)(w:World)(hp:ProgIn w p nA nl nc sA sl sc rA rl rc mA ml mc)(hv:validE p=0)(hf:freeB p=true)(hso:SfOk p):
  Calls Tryz.prog 23 #[.agg #[.int .i64 p.n,.slice nA nl nc,.slice sA sl sc,.slice rA rl rc,.slice mA ml mc]] w fun e w'=>∃(nA':OA) (nl' nc':Nat) (sA':OA) (sl' sc':Nat) (rA':OA) (rl' rc':Nat) (mA':OA) (ml' mc':Nat),
   e=.returned (.tuple #[.agg #[.int .i64 (sfP p).n,.slice nA' nl' nc',.slice sA' sl' sc',.slice rA' rl' rc',.slice mA' ml' mc'],.int .i64 0])∧ProgIn w' (sfP p) nA' nl' nc' sA' sl' sc' rA' rl' rc' mA' ml' mc'∧Below w.heap.size w w':=by
 refine(shift_off p nA nl nc sA sl sc rA rl rc mA ml mc w w (Below.refl _ _) [] (by simp) hp hv hf hso).mono ?_
 rintro e w' ⟨a,b,c,d,e1,f,g,h,i,j,k,l,he,hP,hb⟩
 exact⟨a,b,c,d,e1,f,g,h,i,j,k,l,he,hP w' (Kept.refl _ _),hb⟩
open Go.RowKit Go.Shelf
structure LfS (w:World)(cn B:Nat)(z:Int)(out:LI)(A:OA)(l c:Nat)(W:World):Prop where
 own:OwnB intR 3 w B W (.slice A l c) out
 len:l=out.length
 cnt:Blk W cn 3 #[.int .i64 z]
 ne:(Value.slice A l c).ownBlock≠some cn
theorem LfS.bel {w:World}{cn B:Nat}{z:Int}{out:LI}{A:OA}{l c:Nat}{W W':World}(h:LfS w cn B z out A l c W)(hb:Below W.heap.size W W'):LfS w cn B z out A l c W':=
 ⟨h.own.bel hb,h.len,h.cnt.bel hb,h.ne⟩
theorem LfS.tick {w:World}{cn B:Nat}{z:Int}{out:LI}{A:OA}{l c:Nat}{W:World}(h:LfS w cn B z out A l c W)(hc:w.heap.size≤cn)(z':Int):LfS w cn B z' out A l c (W.setCell ⟨cn,0,none⟩ (.int .i64 z')):=
 ⟨h.own.kept ((Kept.refl [cn] W).set (.inl (by simp)) _) (fun k hk=>by simp at hk;subst hk;exact⟨hc,h.ne⟩),h.len,h.cnt.set_ 0 _,h.ne⟩
theorem lf_step {m:LI}{rs:LG}{n:Int}{k:Nat}{r:GRule}(h:rs[k]? = some r):lfF (fun r=>bodyB r m) (rs.take (k+1)) n=lfF (fun r=>bodyB r m) (rs.take k) n++(if (djB r && r.sum) && bodyB r m then [n+(sfC (rs.take k):Int)+1]else []):=by
 rw[List.take_add_one,h];exact lfF_snoc _ _ _ _
theorem lift_any (p:GProg)(nA:OA)(nl nc:Nat)(sA:OA)(sl sc:Nat)(rA:OA)(rl rc:Nat)(mA:OA)(ml mc:Nat)(xA:OA)(xl xc:Nat)(m:LI)(w:World)(hp:ProgIn w p nA nl nc sA sl sc rA rl rc mA ml mc)(hm:SlIs intR w xA xl xc m)(hv:validE p=0)(hf:freeB p=true)(hso:SfOk p)(hi:incB p.n m=true):
  Calls Tryz.prog 41 #[.agg #[.int .i64 p.n,.slice nA nl nc,.slice sA sl sc,.slice rA rl rc,.slice mA ml mc],.slice xA xl xc] w fun e w'=>∃A l c,e=.returned (.tuple #[.slice A l c,.int .i64 0])∧SlIs intR w' A l c (liftL p m)∧Below w.heap.size w w':=by
 have hpi:=validE_is hv;have hnb:=namedB_n hpi.named;have hml:xl≤1000000:=by have:=inc_lenN hnb.1 hi;have:=hm.len;omega
 have cS:=fun W (hb:Below w.heap.size w W)=>shift_any p nA nl nc sA sl sc rA rl rc mA ml mc W (hp.ext hb) hv hf hso;have cM:=fun W (hb:Below w.heap.size w W)=>set_any xA xl xc m p.n W (hm.ext hb);rw[hi]at cM;have cL:=fun W (hb:Below w.heap.size w W)=>cloneI_own xA xl xc m w W hm hb hml;have hrc:=hp.rules.cap;have hrm:=hp.rules.max;have hrl:=hp.rules.len
 obtain⟨HP,CS,CM,CL,HV,HF,HSO,HI,HM,HPI,HNB,HRL⟩:=Zq12 hp cS cM cL hv hf hso hi hm hpi hnb hrl;clear hp cS cM cL hv hf hso hi hm hpi hnb hrl
 go_enter Tryz.func41,Tryz.ntmps41;go_wp2_with fail;go_fit (CS.out _ (bel_alloc _ _));rintro e w1 ⟨nE,lE,cE,sE,kE,dE,rE,mE,fE,tE,iE,jE,rfl,hP,hb1⟩;have hx1:=(Blk.new w 27 #[.int .i64 p.n,.slice nA nl nc,.slice sA sl sc,.slice rA rl rc,.slice mA ml mc]).bel hb1;have hx2:=hx1.alloc (.cells #[.int .i64 (sfP p).n,.slice nE lE cE,.slice sE kE dE,.slice rE mE fE,.slice tE iE jE] 27);have HB1:=Zq1 (bel_trans (bel_trans (bel_alloc _ _) hb1) (bel_alloc w1 (.cells #[.int .i64 (sfP p).n,.slice nE lE cE,.slice sE kE dE,.slice rE mE fE,.slice tE iE jE] 27)));have n0:(w1.alloc (.cells #[.int .i64 (sfP p).n,.slice nE lE cE,.slice sE kE dE,.slice rE mE fE,.slice tE iE jE] 27)).cell? ⟨w.heap.size,0,none⟩=some (.int .i64 p.n):=hx2.cell 0;clear hb1 hP
 obtain⟨HX1,HX2⟩:=Zq2 hx1 hx2;clear hx1 hx2
 go_wp2_with fail;go_fit (CM.out _ HB1.out);rintro e w2 ⟨rfl,rfl⟩;go_wp2_with fail;go_fit (CL.out _ HB1.out);rintro e w3 ⟨oA,ol,oc,rfl,hown,hol,hb3⟩;clear n0;generalize w1.alloc (.cells #[.int .i64 (sfP p).n,.slice nE lE cE,.slice sE kE dE,.slice rE mE fE,.slice tE iE jE] 27)=W2 at *;have hx3:=HX2.out.bel hb3;have hbw3:=bel_trans HB1.out hb3;have n0:w3.cell? ⟨w.heap.size,0,none⟩=some (.int .i64 p.n):=hx3.cell 0;clear hb3
 obtain⟨HOWN,HOL,HX3,HBW3⟩:=Zq4 hown hol hx3 hbw3;clear hown hol hx3 hbw3
 go_wp2_with fail;go_fit (counter_any p.n w3);rintro e w4 ⟨rfl,rfl⟩;have hx4:=HX3.out.alloc (.cells #[.int .i64 p.n] 3);have n3:(w3.alloc (.cells #[.int .i64 p.n] 3)).cell? ⟨w.heap.size,3,none⟩=some (.slice rA rl rc):=hx4.cell 3
 have hS:LfS w w3.heap.size W2.heap.size (p.n+(sfC (p.rules.take 0):Int)) (m++lfF (fun r=>bodyB r m) (p.rules.take 0) p.n) oA ol oc (w3.alloc (.cells #[.int .i64 p.n] 3)):=by
  refine⟨by simpa[lfF]using HOWN.out.bel (bel_alloc _ _),by simpa[lfF]using HOL.out,by simpa[sfC]using Blk.new w3 3 #[.int .i64 p.n],fun e=>by have:=(HOWN.out.lt e).2;omega⟩
 have hw34:w.heap.size≤w3.heap.size:=HBW3.out.size
 obtain⟨HX4,HS⟩:=Zq2 hx4 hS;clear hx4 hS
 go_wp2_with fail;clear n0 n3;generalize w3.alloc (.cells #[.int .i64 p.n] 3)=W4 at *;go_loopw [8,36] (fun v t wr=>∃(i:Nat) (A:OA) (l c:Nat),i≤rl∧v=.slice A l c∧t=.int .i64 (i:Int)∧LfS w w3.heap.size W2.heap.size (p.n+(sfC (p.rules.take i):Int)) (m++lfF (fun r=>bodyB r m) (p.rules.take i) p.n) A l c wr) (fun _ t _=>rl-(intOf t).toNat)
 case atStart=>exact⟨0,oA,ol,oc,Nat.zero_le _,rfl,rfl,HS.out⟩
 case round=>
  obtain⟨i,A,l,c,hi,rfl,rfl,hs⟩:=hrel
  obtain⟨wo,rfl⟩:∃wo:World,wo=wr:=⟨_,rfl⟩
  by_cases hlt:i<rl
  ·obtain⟨r,hri,-⟩:=HP.out.rules.drop hlt
   obtain⟨bb,off,hA,hl,hc,bA,bl,bc,wA,wl,wc,rfl,hbl2,x0,x1,x2,x3,x4,x5,g1,g2,g3,g4⟩:=HP.out.rules.rule hri
   have hbw:=hs.own.below;have hlo:w3.heap.size<wo.heap.size:=hs.cnt.lt;have d0:=(hbw.cell (World.block_lt_of_cell? _ _ x0)).trans x0;have d1:=(hbw.cell (World.block_lt_of_cell? _ _ x1)).trans x1;have d2:=(hbw.cell (World.block_lt_of_cell? _ _ x2)).trans x2;have d3:=(hbw.cell (World.block_lt_of_cell? _ _ x3)).trans x3;have d4:=(hbw.cell (World.block_lt_of_cell? _ _ x4)).trans x4;have d5:=(hbw.cell (World.block_lt_of_cell? _ _ x5)).trans x5;clear x0 x1 x2 x3 x4 x5;have k0:(0:Int)≤(i:Int):=(by omega);have k1:(i:Int)<(rl:Int):=(by omega);have hri_:=HPI.out.rules r (List.mem_of_getElem? hri);have hrin:RuleIn w r hA hl hc bA bl bc wA wl wc:=⟨g1,g2,g3,g4⟩;have hst:=lf_step (m:=m) (n:=p.n) hri;have hct:=sfC_take hri
   obtain⟨sm,hsm⟩:∃sm,r.sum=sm:=⟨_,rfl⟩
   rw[hsm]at d2;have b4:Blk (wo.alloc (.cells #[.bool r.choice,.slice hA hl hc,.bool sm,.int .i64 r.bound,.slice bA bl bc,.slice wA wl wc] 42)) wo.heap.size 42 #[.bool r.choice,.slice hA hl hc,.bool sm,.int .i64 r.bound,.slice bA bl bc,.slice wA wl wc]:=blk_new rfl _ _;have hs4:=hs.bel (bel_alloc wo (.cells #[.bool r.choice,.slice hA hl hc,.bool sm,.int .i64 r.bound,.slice bA bl bc,.slice wA wl wc] 42));have m0:=b4.cell 0;have m1:=b4.cell 1;have m2:=b4.cell 2;have m3:=b4.cell 3;have m4:=b4.cell 4;have m5:=b4.cell 5;change (wo.alloc (.cells #[.bool r.choice,.slice hA hl hc,.bool sm,.int .i64 r.bound,.slice bA bl bc,.slice wA wl wc] 42)).cell? ⟨wo.heap.size,0,none⟩=some (.bool r.choice)at m0;change (wo.alloc (.cells #[.bool r.choice,.slice hA hl hc,.bool sm,.int .i64 r.bound,.slice bA bl bc,.slice wA wl wc] 42)).cell? ⟨wo.heap.size,1,none⟩=some (.slice hA hl hc)at m1;change (wo.alloc (.cells #[.bool r.choice,.slice hA hl hc,.bool sm,.int .i64 r.bound,.slice bA bl bc,.slice wA wl wc] 42)).cell? ⟨wo.heap.size,2,none⟩=some (.bool sm)at m2;change (wo.alloc (.cells #[.bool r.choice,.slice hA hl hc,.bool sm,.int .i64 r.bound,.slice bA bl bc,.slice wA wl wc] 42)).cell? ⟨wo.heap.size,3,none⟩=some (.int .i64 r.bound)at m3;change (wo.alloc (.cells #[.bool r.choice,.slice hA hl hc,.bool sm,.int .i64 r.bound,.slice bA bl bc,.slice wA wl wc] 42)).cell? ⟨wo.heap.size,4,none⟩=some (.slice bA bl bc)at m4;change (wo.alloc (.cells #[.bool r.choice,.slice hA hl hc,.bool sm,.int .i64 r.bound,.slice bA bl bc,.slice wA wl wc] 42)).cell? ⟨wo.heap.size,5,none⟩=some (.slice wA wl wc)at m5;have cD:=dj_any r hA hl hc bA bl bc wA wl wc (wo.alloc (.cells #[.bool r.choice,.slice hA hl hc,.bool sm,.int .i64 r.bound,.slice bA bl bc,.slice wA wl wc] 42)) (hrin.ext (bel_trans hbw (bel_alloc _ _)));rw[hsm]at cD
   have hsN:p.n+(sfC (p.rules.take (i+1)):Int)≤4000:=by
    have h1:=HSO.out.n;have h2:=sfC_le p.rules (i+1);omega
   have hn0:=HNB.out.1
   obtain⟨HRI,G1,G2,G3,G4,HRI_,HRIN,HST,HCT,B4,HS4,CD⟩:=Zq12 hri g1 g2 g3 g4 hri_ hrin hst hct b4 hs4 cD;clear hri g1 g2 g3 g4 hri_ hrin hst hct b4 hs4 cD
   obtain⟨HSN,HN0,HSM⟩:=Zq3 hsN hn0 hsm;clear hsN hn0 hsm
   cases hd:djB r with
   |false=>
    have e1:(if ((djB r && r.sum) && bodyB r m)=true then [p.n+(sfC (p.rules.take i):Int)+1]else ([]:LI))=[]:=(by rw[hd];rfl);have e2:sfN r=0:=(by unfold sfN;rw[hd];rfl);rw[hd]at CD;have hst:=HST.out;have hct:sfC (p.rules.take (i+1))=sfC (p.rules.take i):=(by have:=HCT.out;omega);rw[e1,List.append_nil]at hst;rw[← hst,← hct]at HS4
    obtain⟨HST,HCT,E1,E2,HD⟩:=Zq5 hst hct e1 e2 hd;clear hst hct e1 e2 hd
    go_wp2_with fail;go_fit CD.out;rintro e w5 ⟨rfl,hb5⟩;have hs5:=HS4.out.bel hb5;clear hb5;have HS5:=Zq1 hs5;clear hs5;go_wp2_with fail;go_roundw;exact⟨i+1,A,l,c,by omega,rfl,by go_num,HS5.out⟩;simp[intOf];omega
   |true=>
    rw[hd]at CD
    cases sm with
    |false=>
     have e1:(if ((djB r && r.sum) && bodyB r m)=true then [p.n+(sfC (p.rules.take i):Int)+1]else ([]:LI))=[]:=(by rw[hd,HSM.out];rfl);have e2:sfN r=0:=(by unfold sfN;rw[hd,HSM.out];rfl);have hst:=HST.out;have hct:sfC (p.rules.take (i+1))=sfC (p.rules.take i):=(by have:=HCT.out;omega);rw[e1,List.append_nil]at hst;rw[← hst,← hct]at HS4
     obtain⟨HST,HCT,E1,E2,HD⟩:=Zq5 hst hct e1 e2 hd;clear hst hct e1 e2 hd
     go_wp2_with fail;go_fit CD.out;rintro e w5 ⟨rfl,hb5⟩;have hs5:=HS4.out.bel hb5;have b5:=B4.out.bel hb5;have m2:w5.cell? ⟨wo.heap.size,2,none⟩=some (.bool false):=b5.cell 2;clear hb5
     obtain⟨HS5,B5⟩:=Zq2 hs5 b5;clear hs5 b5
     go_wp2_with fail;go_roundw;exact⟨i+1,A,l,c,by omega,rfl,by go_num,HS5.out⟩;simp[intOf];omega
    |true=>
     have e2:sfN r=1:=(by unfold sfN;rw[hd,HSM.out];rfl);have hct:sfC (p.rules.take (i+1))=sfC (p.rules.take i)+1:=(by have:=HCT.out;omega);have hsN2:p.n+(sfC (p.rules.take i):Int)+1≤4000:=(by have:=HSN.out;omega);have hz:p.n+((sfC (p.rules.take i)+1:Nat):Int)=p.n+(sfC (p.rules.take i):Int)+1:=(by omega)
     obtain⟨HD,E2,HCT,HSN2,HZ⟩:=Zq5 hd e2 hct hsN2 hz;clear hd e2 hct hsN2 hz
     go_wp2_with fail;go_fit CD.out;rintro e w5 ⟨rfl,hb5⟩;have hs5:=HS4.out.bel hb5;have b5:=B4.out.bel hb5;have m2:w5.cell? ⟨wo.heap.size,2,none⟩=some (.bool true):=b5.cell 2;have hlw:=b5.lt;have hcl:=HS4.out.cnt.lt;clear hb5
     obtain⟨HS5,B5⟩:=Zq2 hs5 b5;clear hs5 b5
     go_wp2_with fail;go_fit (counter1_any w3.heap.size (p.n+(sfC (p.rules.take i):Int)) w5 HS5.out.cnt (by have:=HN0.out;omega) (by have:=HSN2.out;omega));rintro e w6 ⟨rfl,rfl⟩;have hs6:=HS5.out.tick hw34 (p.n+(sfC (p.rules.take i):Int)+1);have b6:=B5.out.far (p:=⟨w3.heap.size,0,none⟩) (by simp;omega) (.int .i64 (p.n+(sfC (p.rules.take i):Int)+1));generalize w5.setCell ⟨w3.heap.size,0,none⟩ (.int .i64 (p.n+(sfC (p.rules.take i):Int)+1))=w6 at *;clear m0 m1 m2 m3 m4 m5;have m0:w6.cell? ⟨wo.heap.size,0,none⟩=some (.bool r.choice):=b6.cell 0;have m1:w6.cell? ⟨wo.heap.size,1,none⟩=some (.slice hA hl hc):=b6.cell 1;have m2:w6.cell? ⟨wo.heap.size,2,none⟩=some (.bool true):=b6.cell 2;have m3:w6.cell? ⟨wo.heap.size,3,none⟩=some (.int .i64 r.bound):=b6.cell 3;have m4:w6.cell? ⟨wo.heap.size,4,none⟩=some (.slice bA bl bc):=b6.cell 4;have m5:w6.cell? ⟨wo.heap.size,5,none⟩=some (.slice wA wl wc):=b6.cell 5;have cB:=bodyOut_any r hA hl hc bA bl bc wA wl wc xA xl xc m w6 (HRIN.out.ext hs6.own.below) (HM.out.ext hs6.own.below);rw[HSM.out,bodyC_rule HRI_.out]at cB;rw[← HZ.out,← HCT.out]at hs6;have hst:=HST.out
     obtain⟨HS6,B6,CB,HST⟩:=Zq4 hs6 b6 cB hst;clear hs6 b6 cB hst
     obtain⟨bv,hbv⟩:∃bv,bodyB r m=bv:=⟨_,rfl⟩
     rw[hbv]at CB
     cases bv with
     |false=>
      have e1:(if ((djB r && r.sum) && bodyB r m)=true then [p.n+(sfC (p.rules.take i):Int)+1]else ([]:LI))=[]:=(by rw[HD.out,HSM.out,hbv];rfl);rw[e1,List.append_nil]at HST;rw[← HST.out]at HS6
      obtain⟨E1,HBV⟩:=Zq2 e1 hbv;clear e1 hbv
      go_wp2_with fail;go_fit CB.out;rintro e w7 ⟨rfl,hb7⟩;have hs7:=HS6.out.bel hb7;clear hb7;have HS7:=Zq1 hs7;clear hs7;go_wp2_with fail;go_roundw;exact⟨i+1,A,l,c,by omega,rfl,by go_num,HS7.out⟩;simp[intOf];omega
     |true=>
      have e1:(if ((djB r && r.sum) && bodyB r m)=true then [p.n+(sfC (p.rules.take i):Int)+1]else ([]:LI))=[p.n+(sfC (p.rules.take i):Int)+1]:=(by rw[HD.out,HSM.out,hbv];rfl);rw[e1]at HST
      obtain⟨E1,HBV⟩:=Zq2 e1 hbv;clear e1 hbv
      go_wp2_with fail;go_fit CB.out;rintro e w7 ⟨rfl,hb7⟩;have hs7:=HS6.out.bel hb7
      have hlen7:(m++lfF (fun r=>bodyB r m) (p.rules.take i) p.n).length<1099511627776:=by
       have h1:=lfF_len (fun r=>bodyB r m) (p.rules.take i) p.n;have h2:=HSN2.out;have h3:=HM.out.len;have h4:=HN0.out;rw[List.length_append];omega
      obtain⟨v',w8,hrun,own8,hg8,hat8⟩:=hs7.own.app1 ety_int [.int .i64 (p.n+(sfC (p.rules.take i):Int)+1)] (p.n+(sfC (p.rules.take i):Int)+1) ⟨rfl,by have:=HN0.out;have:=HSN2.out;unfold I64;omega⟩ hlen7 23
      obtain⟨A',c',rfl,-⟩:=own8.sl (by rw[List.length_append,List.length_singleton];omega)
      obtain⟨l',hl'⟩:∃l',l'=(m++lfF (fun r=>bodyB r m) (p.rules.take i) p.n++[p.n+(sfC (p.rules.take i):Int)+1]).length:=⟨_,rfl⟩
      rw[← hl']at hrun own8 hat8;have hcl7:=hs7.cnt.lt
      have hs8:LfS w w3.heap.size W2.heap.size (p.n+(sfC (p.rules.take (i+1)):Int)) (m++lfF (fun r=>bodyB r m) (p.rules.take (i+1)) p.n) A' l' c' w8:=by
       rw[HST.out,← List.append_assoc]
       exact⟨own8,hl',(grown_kept hg8).blk hs7.cnt (fun e=>hs7.ne (by simpa using e)),fun e=>by
        rcases hat8 _ e with h | h
        ·exact hs7.ne h
        ·omega⟩
      clear hb7
      obtain⟨HS7,HRUN,OWN8,HG8,HAT8,HS8,HL'⟩:=Zq7 hs7 hrun own8 hg8 hat8 hs8 hl';clear hs7 hrun own8 hg8 hat8 hs8 hl'
      go_wp2_with (at_builtin;refine wpList_append_run rfl _ _ _ rfl _ _ rfl rfl _ _ HRUN.out ?_);go_roundw;exact⟨i+1,A',l',c',by omega,rfl,by go_num,HS8.out⟩;simp[intOf];omega
  ·have hil:i=rl:=(by omega);subst hil;have htk:p.rules.take i=p.rules:=List.take_of_length_le (by have:=HRL.out;omega);rw[htk]at hs
   have hlen:(m++lfF (fun r=>bodyB r m) p.rules p.n).length≤17592186044416:=by
    have h1:=lfF_len (fun r=>bodyB r m) p.rules p.n;have h2:=HSO.out.n;have h3:=HM.out.len;have h4:=HNB.out.1;rw[List.length_append];omega
   obtain⟨A',c',he,hsl⟩:=hs.own.sl hlen
   rw[← hs.len]at he hsl;injection he with e1 _ e2;subst e1 e2;have hbw:=hs.own.below
   obtain⟨HS,HSL,HBW,HTK,HLEN⟩:=Zq5 hs hsl hbw htk hlen;clear hs hsl hbw htk hlen
   go_wp2_with fail;go_ret2
   exact⟨_,_,_,rfl,HSL.out,HBW.out⟩

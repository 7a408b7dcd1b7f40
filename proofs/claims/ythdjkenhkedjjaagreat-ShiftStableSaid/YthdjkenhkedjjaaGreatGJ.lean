/- GJ -/
import Derived.Test.YthdjkenhkedjjaaGreatSrl
import Derived.Test.YthdjkenhkedjjaaGreatSrw
import Derived.Test.YthdjkenhkedjjaaGreatSt6
import Derived.Test.YthdjkenhkedjjaaGreatGI
import Derived.Test.YthdjkenhkedjjaaGreatGC
set_option maxRecDepth 100000
set_option maxHeartbeats 4000000
namespace Go.Proofs.YthdjkenhkedjjaaGreat
open Go.RowKit Go.Shelf Go.Sort Go.Lib
theorem swo_cmpL {n:Nat}(xs:Fin n→LI):SWO (ltOf fun i j:Fin n=>cmpL (xs i) (xs j)) where
 irrefl x:=by unfold ltOf;rw[cmpL_lt];exact lexLt_irrefl _
 trans x y z h1 h2:=by unfold ltOf at *;rw[cmpL_lt]at *;exact lexLt_trans _ _ _ h1 h2
 ntrans x y z h1 h2:=by
  unfold ltOf at *;rw[cmpL_lt]at *
  by_cases e1:xs x=xs y
  ·rw[e1];exact h2
  ·by_cases e2:xs y=xs z
   ·rw[← e2];exact h1
   ·have g1:=(lexLt_total _ _ e1).resolve_left (by rw[h1];simp);have g2:=(lexLt_total _ _ e2).resolve_left (by rw[h2];simp);exact lexLt_asymm _ _ (lexLt_trans _ _ _ g2 g1)
theorem kept_sortWorld {n:Nat} [Inhabited (Fin n)] (enc:Fin n→Value)(w:World)(g m:Nat)(d:Array (Fin n))(os:Array Obj):Kept [g] w (sortWorld enc w g 0 m d os):=by
 refine⟨rfl,rfl,rfl,?_,fun k hk hne=>?_⟩
 ·simp[sortWorld,putRow,mapBlock,Sort.ahead]
 ·have h1:k<(putRow enc (Sort.ahead w m) g 0 d).heap.size:=by simp[putRow,mapBlock,Sort.ahead];exact hk
  have hgk:g≠k:=fun e=>hne (by simp[e]);unfold sortWorld;rw[heap_grow_old _ _ h1];show ((w.heap.modify g (onCells (putCells enc 0 d))))[k]? = w.heap[k]?;rw[Array.getElem?_modify,if_neg hgk]
theorem extract_all {α:Type}(a:Array α)(n:Nat)(h:a.size=n):a.extract 0 n=a:=by subst h;simp
theorem sortSets_any (W:World)(base:Nat)(v:Value)(cs:List Value)(M:LN)(xs:List (LI))(h:SetRow W base v cs M xs)(hM:∀k,v.ownBlock=some k→k∈M)(hl:xs.length<4611686018427387904)(hl2:xs.length≤17592186044416):
  Calls Tryz.prog 81 #[v,.func (.func 82) #[] #[]] W fun e w'=>e=.returned (.tuple #[])∧∃ys A c,ys.Perm xs∧(ys.Pairwise fun a b=>lexLt b a=false)∧v=.slice A ys.length c∧SlIs (slR intR) w' A ys.length c ys∧Kept v.ownBlock.toList W w':=by
 obtain⟨A,c,hv,hsl⟩:=h.sl hl2
 rcases Nat.eq_zero_or_pos xs.length with h0 | h0
 ·have hn:=AnyF.slices_SortFunc_none (P:=Tryz.prog) (ρ:=sortL_ren) { sortL with } A c (.func (.func 82) #[] #[]) W;change Calls Tryz.prog 81 _ _ _ at hn;have hx:xs=[]:=List.eq_nil_of_length_eq_zero h0;subst hx;rw[hv];refine hn.mono ?_;rintro e w' ⟨rfl,rfl⟩
  exact⟨rfl,[],A,c,List.Perm.refl _,by simp,rfl,hsl,Kept.refl _ _⟩
 ·obtain⟨n,hn⟩:∃n,n=xs.length:=⟨_,rfl⟩
  have hi:Inhabited (Fin n):=⟨⟨0,by omega⟩⟩;rcases h.1.2 with⟨hv0,hz⟩ | ⟨g,cap,cur,hv1,hgb,hg,hlc,hcm,hcs,htk⟩
  ·omega
  ·have hcs':cs.length=n:=by have:=h.1.1;omega
   obtain⟨enc,henc⟩:∃enc:Fin n→Value,enc=fun i=>cs.getD i.val undef:=⟨_,rfl⟩
   obtain⟨xf,hxf⟩:∃xf:Fin n→LI,xf=fun i=>xs.getD i.val []:=⟨_,rfl⟩
   obtain⟨d,hd⟩:∃d:Array (Fin n),d=Array.ofFn id:=⟨_,rfl⟩
   have hds:d.size=n:=(by rw[hd];simp);have hdj:∀j (hj:j<n),d[j]! = ⟨j,hj⟩:=fun j hj=>by rw[hd,getElem!_pos _ j (by simpa using hj)];simp
   have hat:∀i:Fin n,∃(A:OA) (l c:Nat),enc i=.slice A l c∧SlIs intR W A l c (xf i)∧Off M A l:=fun i=>by
    obtain⟨A,l,c,h1,h2,h3⟩:=h.2 i (xf i) (by rw[hxf];show xs[i.val]? = some (xs.getD i.val []);rw[List.getD_eq_getElem?_getD,List.getElem?_eq_getElem (by omega)];rfl)
    exact⟨A,l,c,by rw[henc];simp only[List.getD_eq_getElem?_getD,h1];rfl,h2,h3⟩
   have h1:OneCell enc:=fun i=>by obtain⟨A,l,c,e,_⟩:=hat i;rw[e];rfl
   have hgM:g∈M:=hM g (by rw[hv1];rfl)
   have hgl:g<W.heap.size:=by
    rcases Nat.lt_or_ge g W.heap.size with h | h
    ·exact h
    ·rw[Array.getElem?_eq_none h]at hg;cases hg
   have hH:Holds enc W g 0 d:=fun j hj=>by
    rw[hds]at hj
    refine⟨?_,by simp[World.frozen?,hg]⟩
    have e1:cs[j]? = cur[j]?:=by
     rw[← htk,List.getElem?_take,if_pos (by omega),Array.getElem?_toList]
    rw[Nat.zero_add,cell_of_row W g j cur _ _ hg,← e1,hdj j hj,henc];simp only[List.getD_eq_getElem?_getD];rw[List.getElem?_eq_getElem (by omega)]
    rfl
   have hcmp:CmpReads Tryz.prog 82 #[] enc (fun i j=>cmpL (xf i) (xf j)) g 0 d.size W:=fun m os dk _ x y=>by
    obtain⟨A,l,c,e1,h1,o1⟩:=hat x
    obtain⟨B,k,q,e2,h2,o2⟩:=hat y
    have hk:=(kept_sortWorld enc W g m dk os).more (T:=M) (fun k hk=>by simp at hk;subst hk;exact hgM);rw[e1,e2]
    exact(compareL_any A l c B k q (xf x) (xf y) _ (h1.keptM hk o1) (h2.keptM hk o2)).mono fun e w' ⟨he,hw⟩=>⟨he,0,hw.symm⟩
   have eg:∀args w,(callFunc 82 args).run Tryz.prog w=.ok (.enter 82 args) w:=enters_of Tryz.func82 (by kernel_rfl) rfl;have hcon:=Any.slices_SortFunc sortL enc h1 _ (swo_cmpL xf) 82 #[] g 0 cap d W eg hcmp.lays hH hgl (by omega);change Calls Tryz.prog 81 _ _ _ at hcon;rw[hv1,← hn,← hds];refine hcon.mono ?_;rintro e w' ⟨rfl,d',k,os,hp,hs,rfl⟩;have hd's:d'.size=n:=(by rw[hp.1,hds])
   have hdl:d.toList.map xf=xs:=by
    apply List.ext_getElem
    ·simp[hds,hn]
    ·intro i g1 g2;have hin:i<n:=(by omega)
     have:=hdj i hin
     rw[getElem!_pos d i (by omega)]at this;simp only[List.getElem_map,Array.getElem_toList,this,hxf];rw[List.getD_eq_getElem?_getD,List.getElem?_eq_getElem g2];rfl
   have hpm:d'.toList.Perm d.toList:=by
    have:=hp.2.2
    rw[extract_all d' d.size (by rw[hd's,hds]),extract_all d d.size rfl]at this;exact this
   have hH':=holds_sortWorld enc W g 0 k d d' os hgl hH (by omega);have hkk:=kept_sortWorld enc W g k d' os;have hys:(d'.toList.map xf).length=n:=(by simp[hd's])
   refine⟨rfl,d'.toList.map xf,some ⟨g,0,none⟩,cap,?_,?_,?_,?_,?_⟩
   ·rw[← hdl];exact hpm.map xf
   ·rw[List.pairwise_map,List.pairwise_iff_getElem];intro i j hi hj hij
    have:=hs i j (Nat.zero_le _) hij (by rw[hds,← hd's];simpa using hj)
    rw[getElem!_pos d' i (by simpa using hi),getElem!_pos d' j (by simpa using hj)]at this;unfold ltOf at this;rw[cmpL_lt]at this
    simpa using this
   ·rw[hys,hds]
   ·rw[hys]
    refine⟨hys.symm,by omega,⟨hcm,by omega⟩,fun _=>⟨_,rfl,Nat.lt_of_lt_of_le hgl hkk.size,fun i x hx=>?_⟩⟩
    have hi:i<n:=(by have:=(List.getElem?_eq_some_iff.1 hx).1;omega)
    have hxe:x=xf d'[i]!:=by
     rw[getElem!_pos d' i (by omega)]
     have:=(List.getElem?_eq_some_iff.1 hx).2
     simpa using this.symm
    obtain⟨A',l',c',e1,g1,o1⟩:=hat d'[i]!
    refine⟨[enc d'[i]!],⟨A',l',c',by rw[e1],by rw[hxe];exact g1.keptM (hkk.more (T:=M) (fun k hk=>by simp at hk;subst hk;exact hgM)) o1⟩,fun j u hu=>?_⟩
    match j,hu with
    |0,hu=>
     simp at hu;subst hu;rw[add_none]
     have:=(hH' i (by omega)).1
     simpa[slR]using this
    |j+1,hu=>simp at hu
   ·exact hkk
open Go.RowKit Go.Shelf
attribute [local go_sem] Oper.semAt_some
def atmF (k:Nat):Nat→Int:=fun i=>if i<k then(i:Int)+1 else 0
theorem atmF_set (k:Nat):(fun j=>if j=k then(k:Int)+1 else atmF k j)=atmF (k+1):=by
 funext j;unfold atmF
 by_cases h:j=k
 ·subst h;rw[if_pos rfl,if_pos (by omega)]
 ·rw[if_neg h]
  by_cases h2:j<k
  ·rw[if_pos h2,if_pos (by omega)]
  ·rw[if_neg h2,if_neg (by omega)]
theorem atmF_all (N:Nat):(List.range N).map (atmF N)=atomsL N:=by
 unfold atomsL;apply List.map_congr_left;intro i hi
 have:=List.mem_range.1 hi
 unfold atmF;rw[if_pos this]
theorem all_any (p:GProg)(nA:OA)(nl nc:Nat)(sA:OA)(sl sc:Nat)(rA:OA)(rl rc:Nat)(mA:OA)(ml mc:Nat)(w:World)(hp:ProgIn w p nA nl nc sA sl sc rA rl rc mA ml mc)(hv:validE p=0)(hs:SmallP p):
  Calls Tryz.prog 35 #[.agg #[.int .i64 p.n,.slice nA nl nc,.slice sA sl sc,.slice rA rl rc,.slice mA ml mc]] w fun e w'=>∃A l c,e=.returned (.tuple #[.slice A l c,.int .i64 0])∧SlIs (slR intR) w' A l c (allL p)∧Below w.heap.size w w':=by
 have cV:=fun W (hb:Below w.heap.size w W)=>valid_any p nA nl nc sA sl sc rA rl rc mA ml mc W (hp.ext hb);have cD:=fun W (hb:Below w.heap.size w W)=>disjunctive_any p nA nl nc sA sl sc rA rl rc mA ml mc W (hp.ext hb)
 have cI:=fun A l c x W (hb:Below w.heap.size w W) (hx:SlIs intR W A l c x) (hsub:x.Sublist (atomsL p.n.toNat))=>
  is_any p nA nl nc sA sl sc rA rl rc mA ml mc A l c x (disB p) W (hp.ext hb) hx (hs.check hv hsub) (fun _=>by
   have h1:=hsub.length_le;have h2:=hs.n12;have h3:=hs.n0;have h4:(atomsL p.n.toNat).length=p.n.toNat:=(by simp[atomsL])
   have:=hx.len
   omega) (fun hd=>hs.red x hd) hs.n0
 rw[hv]at cV;change ∀W,Below w.heap.size w W→Calls _ _ _ W fun e w'=>e=.returned (.bool (disB p))∧Below W.heap.size W w' at cD
 obtain⟨N,hN⟩:∃N:Nat,p.n=(N:Int):=⟨p.n.toNat,by have:=hs.n0;omega⟩
 have hN12:N≤12:=by have:=hs.n12;omega
 have hNt:p.n.toNat=N:=(by omega);have hall:=fun ys=>all_perm p (ys:=ys);rw[hNt]at hall;simp only[hNt]at cI;have hic:∀x,isC p x (disB p)=isL p x:=isC_is hs.is;simp only[hic]at cI;have hmk:=make_int N (by omega);simp only[hN]at cV cD cI ⊢;have e12:¬(12:Int)<(N:Int):=(by omega)
 obtain⟨HP,HV,CV,CD,CI,HALL,HIC,HS,HNT,HN⟩:=Zq10 hp hv cV cD cI hall hic hs hNt hN;clear hp hv cV cD cI hall hic hs hNt hN
 refine(callsIn_wide (n:=5)).1 ?_
 refine callsIn_of_wp_marks Tryz.func35 rfl trivial ?_ rfl;simp only[Tryz.ntmps35,List.size_toArray,List.length_cons,List.length_nil,Nat.reduceAdd,Nat.reduceSub,Array.replicate_succ,Array.replicate_zero,List.push_toArray,List.append_toArray,List.nil_append,List.cons_append];gi_wp2_with fail
 refine⟨trivial,?_⟩
 refine(callsIn_wide.2 (CV.out _ (bel_alloc _ _))).mono ?_
 rintro e w1 ⟨rfl,hb1⟩;have hx1:=(Blk.new w 27 #[.int .i64 (N:Int),.slice nA nl nc,.slice sA sl sc,.slice rA rl rc,.slice mA ml mc]).bel hb1
 obtain⟨p0,p1,p2,p3,p4,p5⟩:=pcells hx1
 have HB1:=Zq1 (bel_trans (bel_alloc _ _) hb1);clear hb1;have HX1:=Zq1 hx1;clear hx1;gi_wp2_with fail
 have hat0:Blk (w1.alloc (.cells (fnCells N fun _=>0) 3)) w1.heap.size 3 (fnCells N (atmF 0)):=by
  have:(fun _=>0)=atmF 0:=by funext i;simp[atmF]
  rw[this];exact blk_new rfl _ _
 have hbw0:=bel_trans HB1.out (bel_alloc w1 (.cells (fnCells N fun _=>0) 3));have hx2:=HX1.out.alloc (.cells (fnCells N fun _=>0) 3);have hz1:w1.heap.size<(w1.alloc (.cells (fnCells N fun _=>0) 3)).heap.size:=(by simp);have hz0:w.heap.size<w1.heap.size:=HX1.out.lt;generalize w1.alloc (.cells (fnCells N fun _=>0) 3)=W0 at *
 obtain⟨HAT0,HBW0,HX2⟩:=Zq3 hat0 hbw0 hx2;clear hat0 hbw0 hx2
 clear p0 p1 p2 p3 p4 hmk;gi_loopw [25] (fun t wr=>∃(k:Nat),k≤N∧t=.int .i64 (k:Int)∧Blk wr w1.heap.size 3 (fnCells N (atmF k))∧Kept [w1.heap.size] W0 wr) (fun t _=>N-(intOf t).toNat)
 case atStart=>exact⟨0,Nat.zero_le _,rfl,HAT0.out,Kept.refl _ _⟩
 case round=>
  obtain⟨k,hk,rfl,hbk,hkp⟩:=hrel
  by_cases hlt:k<N
  ·have k0:(0:Int)≤(k:Int):=(by omega);have k1:(k:Int)<(N:Int):=(by omega);have c0:wr.cell? ⟨w1.heap.size,k,none⟩=some (.int .i64 0):=(by rw[hbk.cell,fnCells_get _ _ _ hlt];simp[atmF]);have f0:wr.frozen? ⟨w1.heap.size,k,none⟩=false:=hbk.frozen k;have hb2:=hbk.set_ k (.int .i64 ((k:Int)+1));rw[fnCells_set,atmF_set]at hb2;have hk2:=hkp.set (p:=⟨w1.heap.size,k,none⟩) (.inl (by simp)) (.int .i64 ((k:Int)+1))
   obtain⟨HBK,HKP,HB2,HK2⟩:=Zq4 hbk hkp hb2 hk2;clear hbk hkp hb2 hk2
   gi_wp2_with fail;go_roundw;exact⟨k+1,by omega,by go_num,HB2.out,HK2.out⟩;simp[intOf];omega
  ·obtain rfl:N=k:=(by omega);have hat:=sl_of_blk hbk (by omega) (fun i hi=>by unfold atmF;split <;> (constructor <;> omega));rw[atmF_all]at hat;have hbw2:=Kept.below HBW0.out hkp HBW0.out.size (fun q hq=>by simp at hq;omega);have hx3:=hkp.blk HX2.out (by simp;omega)
   obtain⟨p0,p1,p2,p3,p4,p5⟩:=pcells hx3
   have hz2:=hkp.size;have hatl:=hat.len
   obtain⟨HBK,HKP,HAT,HBW2,HX3,HATL⟩:=Zq6 hbk hkp hat hbw2 hx3 hatl;clear hbk hkp hat hbw2 hx3 hatl
   gi_wp2_with fail
   refine⟨trivial,?_⟩
   refine(callsIn_wide.2 (CD.out _ (bel_trans HBW2.out (bel_alloc _ _)))).mono ?_
   rintro e w2 ⟨rfl,hb2⟩;have hx4:=(HX3.out.alloc (.cells #[.slice none 0 0] 61)).bel hb2;have hat2:=(HAT.out.ext (bel_alloc wr (.cells #[.slice none 0 0] 61))).ext hb2;have hbx:=(Blk.new wr 61 #[.slice none 0 0]).bel hb2;have HBw2:=Zq1 (bel_trans (bel_trans HBW2.out (bel_alloc wr (.cells #[.slice none 0 0] 61))) hb2);have hz3:=hbx.lt;clear hb2 p0 p1 p2 p3 p4
   obtain⟨p0,p1,p2,p3,p4,p6⟩:=pcells hx4
   obtain⟨HX4,HAT2,HBX⟩:=Zq3 hx4 hat2 hbx;clear hx4 hat2 hbx
   gi_wp2_with fail
   refine⟨trivial,?_⟩
   refine(callsIn_wide.2 (subsets_any _ _ _ _)).mono ?_
   rintro e w3 ⟨rfl,rfl⟩;gi_wp2_with fail
   have hW:Blk ((w2.alloc (.cells #[.bool (disB p)] 4)).alloc (.cells #[.slice (some ⟨w1.heap.size,0,none⟩) N N] 23)) w.heap.size 27 #[.int .i64 (N:Int),.slice nA nl nc,.slice sA sl sc,.slice rA rl rc,.slice mA ml mc]∧Blk ((w2.alloc (.cells #[.bool (disB p)] 4)).alloc (.cells #[.slice (some ⟨w1.heap.size,0,none⟩) N N] 23)) wr.heap.size 61 #[.slice none 0 0]∧Blk ((w2.alloc (.cells #[.bool (disB p)] 4)).alloc (.cells #[.slice (some ⟨w1.heap.size,0,none⟩) N N] 23)) w2.heap.size 4 #[.bool (disB p)]∧Blk ((w2.alloc (.cells #[.bool (disB p)] 4)).alloc (.cells #[.slice (some ⟨w1.heap.size,0,none⟩) N N] 23)) (w2.heap.size+1) 23 #[.slice (some ⟨w1.heap.size,0,none⟩) N N]∧Below w2.heap.size w2 ((w2.alloc (.cells #[.bool (disB p)] 4)).alloc (.cells #[.slice (some ⟨w1.heap.size,0,none⟩) N N] 23))∧((w2.alloc (.cells #[.bool (disB p)] 4)).alloc (.cells #[.slice (some ⟨w1.heap.size,0,none⟩) N N] 23)).heap.size=w2.heap.size+1+1:=
    ⟨(HX4.out.alloc _).alloc _,(HBX.out.alloc _).alloc _,(blk_new rfl _ _).alloc _,blk_new (by simp) _ _,bel_trans (bel_alloc _ _) (bel_alloc _ _),by simp⟩
   generalize ((w2.alloc (.cells #[.bool (disB p)] 4)).alloc (.cells #[.slice (some ⟨w1.heap.size,0,none⟩) N N] 23))=W3 at *
   obtain⟨e1,e2,e3,e4,e5,e6⟩:=hW
   have hbW:=bel_trans HBw2.out e5
   obtain⟨E1,E2,E3,E4,E5,HBW⟩:=Zq6 e1 e2 e3 e4 e5 hbW;clear e1 e2 e3 e4 e5 hbW
   refine wpIn_rangeM rfl (by omega) (gf:=124) (lb:=#[.pointer (some ⟨w2.heap.size+1,0,none⟩)]) rfl trivial (enters_of Tryz.func124 (by kernel_rfl) rfl)
    (sub1_iter 4 (by omega) (w2.heap.size+1) (some ⟨w1.heap.size,0,none⟩) N N (atomsL N) [wr.heap.size] W3
     (fun M W hM hk=>⟨hk.cell (E4.out.cell 0) (fun hq=>by rcases hM _ hq with h | h <;> simp at h <;> omega),(HAT2.out.ext E5.out).keptM hk (fun h0 ad e hq=>by
      cases e;rcases hM _ hq with h | h
      ·simp at h;omega
      ·simp at h;omega)⟩) hN12)
    (fun _ _ _ _ h=>h.size) (fun _ _ _ _ _ _ h hs hk=>h.go hs hk) (GatI w wr.heap.size W3.heap.size [(w.heap.size,27,#[.int .i64 (N:Int),.slice nA nl nc,.slice sA sl sc,.slice rA rl rc,.slice mA ml mc]),(w2.heap.size,4,#[.bool (disB p)])] (isL p)) (fun _ _ _=>False)
    (fun _ _ _ _ h hb=>h.bel hb) (fun _ _ _ _ h hb=>h) (fun _ _ _ _ _ hk0 h hn hk=>h.keep hn hk (Nat.le_trans HBW.out.size hk0)) (fun _ _ _ _ _ hk0 h hn hk=>h)
    (fun M pre W h=>h.cells)
    ⟨.slice none 0 0,[],rfl,E2.out,SetRow.nil _ _ _,HBW.out,Nat.le_refl _,fun t ht=>by
     simp at ht;rcases ht with rfl | rfl
     ·exact⟨E1.out,by simp;omega,by simp;omega⟩
     ·exact⟨E3.out,by simp;omega,by simp;omega⟩⟩
    (fun x args a' W=>∃(A:OA) (l c:Nat),args=#[.slice A l c]∧a'={ tmps:=#[.agg #[.int .i64 (N:Int),.slice nA nl nc,.slice sA sl sc,.slice rA rl rc,.slice mA ml mc],.pointer (some ⟨w.heap.size,0,none⟩),.slice none 0 0,.int .i64 0,.int .i64 0,.slice (some ⟨w1.heap.size,0,none⟩) N N,u6,.pointer (some ⟨wr.heap.size,0,none⟩),.pointer (some ⟨w2.heap.size,0,none⟩),.slice A l c,.agg #[.int .i64 (N:Int),.slice nA nl nc,.slice sA sl sc,.slice rA rl rc,.slice mA ml mc],.int .i64 0,.bool false,.int .i64 0,.bool false,undef,.bool (decide (12<(N:Int))),.pointer (some ⟨w.heap.size,0,none⟩),.int .i64 (N:Int),.bool (decide (12<(N:Int))),.pointer (some ⟨w.heap.size,0,none⟩),.int .i64 (N:Int),.slice (some ⟨w1.heap.size,0,none⟩) N N,.slice (some ⟨w1.heap.size,0,none⟩) N N,.int .i64 (N:Int),.int .i64 (N:Int),.bool false,u27,u28,u29,u30,u31,u32,u33,.agg #[.int .i64 (N:Int),.slice nA nl nc,.slice sA sl sc,.slice rA rl rc,.slice mA ml mc],.bool (disB p),.slice (some ⟨w1.heap.size,0,none⟩) N N,.func (.func 124) #[] #[.pointer (some ⟨w2.heap.size+1,0,none⟩)],.slice A l c,undef,undef,undef,undef,undef,undef,undef,undef,undef,undef,undef],defers:=[] })
    (fun _ _ _ _ _ _ h _ _=>h)
    ?assign ?body ?done ?stop
   case assign=>
    intro l M pre x args W K hi hg hK
    obtain⟨A,l',c,rfl,hs,ho⟩:=hg
    obtain⟨HI,HS,HO⟩:=Zq3 hi hs ho;clear hi hs ho
    gi_wp2;exact hK _ _ (Below.refl _ _) ⟨A,l',c,rfl,rfl⟩
   case body=>
    rintro l M pre x args a' W hi hpf ⟨A,l',c,rfl,hs,ho⟩ ⟨A2,l2,c2,he,rfl⟩;simp at he
    obtain⟨rfl,rfl,rfl⟩:=he
    have hpl:pre.length<1099511627776:=by
     have h1:=hpf.length_le;have h2:(2:Nat) ^ N≤2 ^ 12:=Nat.pow_le_pow_right (by omega) hN12;rw[subs_len]at h1;simp[atomsL]at h1;omega
    have hfl:=List.length_filter_le (isL p) pre;have hsub:x.Sublist (atomsL N):=(subs_mem _ _).1 (hpf.subset (by simp));have hwi:Below w.heap.size w W:=(by obtain⟨_,_,_,_,_,h,_⟩:=hi;exact h);have cX:=CI.out A l' c x W hwi hs hsub
    have hT1:Blk W w.heap.size 27 #[.int .i64 (N:Int),.slice nA nl nc,.slice sA sl sc,.slice rA rl rc,.slice mA ml mc]∧Blk W w2.heap.size 4 #[.bool (disB p)]:=by
     obtain⟨_,_,_,_,_,_,_,h⟩:=hi
     exact⟨(h _ (List.mem_cons_self ..)).1,(h _ (List.mem_cons_of_mem _ (List.mem_cons_self ..))).1⟩
    obtain⟨t1,t2⟩:=hT1
    obtain⟨p0,p1,p2,p3,p4,p6⟩:=pcells t1
    have p7:W.cell? ⟨w2.heap.size,0,none⟩=some (.bool (disB p)):=t2.cell 0
    cases hq:isL p x with
    |false=>
     rw[hq]at cX;have hff:(pre++[x]).filter (isL p)=pre.filter (isL p):=(by rw[List.filter_append];simp[hq])
     obtain⟨HI,HS,HO,CX,HQ,HFF,HWI,HSUB,T1,T2,HPF⟩:=Zq11 hi hs ho cX hq hff hwi hsub t1 t2 hpf;clear hi hs ho cX hq hff hwi hsub t1 t2 hpf
     gi_wp2_with fail
     refine⟨trivial,?_⟩
     refine(callsIn_wide.2 CX.out).mono ?_
     rintro e w4 ⟨rfl,hb4⟩;have hi4:=HI.out.bel hb4;have HB4:=Zq1 hb4;clear hb4;have HI4:=Zq1 hi4;clear hi4;gi_wp2_with fail
     obtain⟨v,cs,rfl,h1,h2,h3⟩:=HI4.out
     exact⟨_,⟨v,cs,rfl,h1,by rw[HFF.out];exact h2,h3⟩,Kept.of_below HB4.out _,fun k hk=>.inl hk⟩
    |true=>
     rw[hq]at cX;have hff:(pre++[x]).filter (isL p)=pre.filter (isL p)++[x]:=(by rw[List.filter_append];simp[hq])
     obtain⟨HI,HS,HO,CX,HQ,HFF,HWI,HSUB,T1,T2,HPF⟩:=Zq11 hi hs ho cX hq hff hwi hsub t1 t2 hpf;clear hi hs ho cX hq hff hwi hsub t1 t2 hpf
     gi_wp2_with fail
     refine⟨trivial,?_⟩
     refine(callsIn_wide.2 CX.out).mono ?_
     rintro e w4 ⟨rfl,hb4⟩;have hi4:=HI.out.bel hb4;have hs4:=HS.out.ext hb4;have HB4:=Zq1 hb4;clear hb4 p0 p1 p2 p3 p4 p7
     obtain⟨v,cs,rfl,hb,hr,hw,hbs,hT⟩:=hi4
     obtain⟨v',w5,hrun,hown,hg5,hat⟩:=appL hr.1 A l' c (by omega) hbs 61
     obtain⟨g',cap',rfl,hgb,hgl⟩:=World.ownsRow.form hown (by omega)
     have hro:some wr.heap.size≠v.ownBlock:=fun e=>by have:=(hr.1.lt _ e.symm).1;omega
     have hc0:w4.cell? ⟨wr.heap.size,0,none⟩=some v:=hb.cell 0;have hc5:=(hg5.cell_far ⟨wr.heap.size,0,none⟩ hb.lt hro).trans hc0;have hf5:=(hg5.frozen_far ⟨wr.heap.size,0,none⟩ hb.lt hro).trans (hb.frozen 0);have kM:Kept (MOf wr.heap.size v) w4 (w5.setCell ⟨wr.heap.size,0,none⟩ (.slice (some ⟨g',0,none⟩) ((pre.filter (isL p)).length+1) cap')):=((Kept.refl _ w4).grown hg5 (fun q hq=>.inl (by unfold MOf;simp[hq]))).set (.inl (by simp[MOf])) _
     have hmV:∀k∈MOf wr.heap.size (.slice (some ⟨g',0,none⟩) ((pre.filter (isL p)).length+1) cap'),k∈MOf wr.heap.size v∨w4.heap.size≤k:=fun k hk=>by
      rcases MOf_mem hk with rfl | hv
      ·exact .inl (by simp[MOf])
      ·rcases hat k hv with h | h
       ·exact .inl (by unfold MOf;simp[h])
       ·exact .inr h
     have oV:=ownsRow_keptS hown ((Kept.refl [wr.heap.size] w5).set (p:=⟨wr.heap.size,0,none⟩) (.inl (by simp)) (.slice (some ⟨g',0,none⟩) ((pre.filter (isL p)).length+1) cap')) (fun q hq hm=>by have:=(hown.lt q hq).1;simp at hm;omega);have rV:=hr.snoc hs4 HO.out oV kM hmV;have bV:Blk (w5.setCell ⟨wr.heap.size,0,none⟩ (.slice (some ⟨g',0,none⟩) ((pre.filter (isL p)).length+1) cap')) wr.heap.size 61 #[(.slice (some ⟨g',0,none⟩) ((pre.filter (isL p)).length+1) cap')]:=(hb.grown hg5 hro).set_ 0 _
     have hwV:Below w.heap.size w (w5.setCell ⟨wr.heap.size,0,none⟩ (.slice (some ⟨g',0,none⟩) ((pre.filter (isL p)).length+1) cap')):=Kept.below hw kM hw.size (fun q hq=>by
      rcases MOf_mem hq with rfl | hv
      ·have:=HBW2.out.size;omega
      ·have:=(hr.1.lt q hv).1;have:=HBW.out.size;omega)
     have hsV:=kM.size
     have hTV:∀t∈[(w.heap.size,27,#[.int .i64 (N:Int),.slice nA nl nc,.slice sA sl sc,.slice rA rl rc,.slice mA ml mc]),(w2.heap.size,4,#[.bool (disB p)])],Blk (w5.setCell ⟨wr.heap.size,0,none⟩ (.slice (some ⟨g',0,none⟩) ((pre.filter (isL p)).length+1) cap')) t.1 t.2.1 t.2.2∧t.1≠wr.heap.size∧t.1<W3.heap.size:=fun t ht=>⟨kM.blk (hT t ht).1 (fun hm=>by
      rcases MOf_mem hm with h | h
      ·exact(hT t ht).2.1 h
      ·have:=(hr.1.lt _ h).1;have:=(hT t ht).2.2;omega),(hT t ht).2⟩
     have hfin:GatI w wr.heap.size W3.heap.size [(w.heap.size,27,#[.int .i64 (N:Int),.slice nA nl nc,.slice sA sl sc,.slice rA rl rc,.slice mA ml mc]),(w2.heap.size,4,#[.bool (disB p)])] (isL p) (MOf wr.heap.size (.slice (some ⟨g',0,none⟩) ((pre.filter (isL p)).length+1) cap')) (pre++[x]) (w5.setCell ⟨wr.heap.size,0,none⟩ (.slice (some ⟨g',0,none⟩) ((pre.filter (isL p)).length+1) cap')):=
      ⟨_,_,rfl,bV,by rw[HFF.out];exact rV,hwV,by omega,hTV⟩
     have hkW:Kept (MOf wr.heap.size v) W (w5.setCell ⟨wr.heap.size,0,none⟩ (.slice (some ⟨g',0,none⟩) ((pre.filter (isL p)).length+1) cap')):=(Kept.of_below HB4.out _).trans kM
     have hmW:∀k∈MOf wr.heap.size (.slice (some ⟨g',0,none⟩) ((pre.filter (isL p)).length+1) cap'),k∈MOf wr.heap.size v∨W.heap.size≤k:=fun k hk=>by
      rcases hmV k hk with h | h
      ·exact .inl h
      ·exact .inr (Nat.le_trans HB4.out.size h)
     obtain⟨HB,HR,HW,HT,HRUN,HOWN,HG5,HAT,HRO,KM,HMV,OV⟩:=Zq12 hb hr hw hT hrun hown hg5 hat hro kM hmV oV;clear hb hr hw hT hrun hown hg5 hat hro kM hmV oV
     obtain⟨RV,BV,HWV,HTV,HFIN,HKW,HMW⟩:=Zq7 rV bV hwV hTV hfin hkW hmW;clear rV bV hwV hTV hfin hkW hmW
     gi_wp2_with (gi_at_builtin;refine wpListIn_append_run rfl _ _ _ rfl _ _ rfl rfl _ _ HRUN.out ?_)
     exact⟨_,HFIN.out,HKW.out,HMW.out⟩
   case done=>
    intro D M W hD hi hdf
    obtain⟨v,cs,rfl,hb,hr,hw,hbs,hT⟩:=hi
    have hn:∀o,W.heap[D]? = some o→o.isCells=false:=fun o h=>by rw[hdf]at h;cases h;rfl
    have hDo:=own_ne hr.1 hn;have hDb:=blk_ne hb hn;have hfl:=List.length_filter_le (isL p) (subsL (atomsL N))
    have hsl:(subsL (atomsL N)).length≤4096:=by
     have h2:(2:Nat) ^ N≤2 ^ 12:=Nat.pow_le_pow_right (by omega) hN12;rw[subs_len];simp[atomsL];omega
    have hc0:W.cell? ⟨wr.heap.size,0,none⟩=some v:=hb.cell 0;have cS:=sortSets_any W W3.heap.size v cs (MOf wr.heap.size v) _ hr (fun k hk=>by unfold MOf;simp[hk]) (by omega) (by omega);have HDF:=Zq1 hdf;clear hdf
    obtain⟨HB,HR,HW,HBS,HT,HN,HDO,HDB,HFL,HSL,CS⟩:=Zq11 hb hr hw hbs hT hn hDo hDb hfl hsl cS;clear hb hr hw hbs hT hn hDo hDb hfl hsl cS
    gi_wp2_with fail
    refine⟨trivial,?_⟩
    refine(callsIn_wide.2 CS.out).mono ?_
    rintro e w5 ⟨rfl,ys,A,c,hperm,hpw,rfl,hys,hk5⟩;have hya:ys=allL p:=HALL.out ys hperm hpw;have hmo:∀q,q∈(Value.slice A ys.length c).ownBlock.toList→(Value.slice A ys.length c).ownBlock=some q:=fun q hq=>by simpa using hq
    have hb5:Blk w5 wr.heap.size 61 #[.slice A ys.length c]:=hk5.blk HB.out (fun hq=>by have:=(HR.out.1.lt _ (hmo _ hq)).1;omega);have hd5:w5.heap[D]? = some (.deferred (some [])):=(hk5.block D (Array.getElem?_eq_some_iff.1 HDF.out).1 (fun hq=>HDO.out (hmo _ hq))).trans HDF.out;have hw5:=Kept.below HW.out hk5 HW.out.size (fun q hq=>by have:=(HR.out.1.lt _ (hmo _ hq)).1;have:=HBW.out.size;omega);have hc5:w5.cell? ⟨wr.heap.size,0,none⟩=some (.slice A ys.length c):=hb5.cell 0;have hkD:=kept_putObj w5 D (.deferred none);have hn5:∀o,w5.heap[D]? = some o→o.isCells=false:=fun o h=>by rw[hd5]at h;cases h;rfl
    have hyf:=hys.keepN hn5 hkD;have hwf:=Kept.below hw5 hkD hw5.size (fun q hq=>by simp at hq;have:=HBW.out.size;omega);have HD5:=Zq1 hd5;clear hd5 hc0
    obtain⟨HPERM,HPW,HYS,HK5,HYA,HMO,HB5,HW5,HKD,HN5,HYF,HWF⟩:=Zq12 hperm hpw hys hk5 hya hmo hb5 hw5 hkD hn5 hyf hwf;clear hperm hpw hys hk5 hya hmo hb5 hw5 hkD hn5 hyf hwf
    gi_wp2_with fail
    refine⟨by simp,.inl ⟨_,_,rfl,run_takeDeferred HD5.out,?_⟩⟩
    exact⟨_,results_tmp2 rfl _ _ _,_,_,_,rfl,by rw[← HYA.out];exact HYF.out,HWF.out⟩
   case stop=>
    intro D c pre W hD hpre hx;exact hx.elim
open Go.RowKit

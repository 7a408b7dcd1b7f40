/- GD -/
import Derived.Test.YthdjkenhkedjjaaGreatMul
import Derived.Laws.CopyOwn
import Derived.Test.YthdjkenhkedjjaaGreatGC
set_option maxRecDepth 100000
set_option maxHeartbeats 8000000
namespace Go.Proofs.YthdjkenhkedjjaaGreat
open Go.RowKit Go.Shelf
theorem mul1_any (n:Nat)(hn:n≤1000000)(W:World):Calls Tryz.prog 175 #[.int .u64 1,.int .u64 (n:Int)] W fun e w'=>e=.returned (.tuple #[.int .u64 0,.int .u64 (n:Int)])∧W=w':=by
 have h:=Any.bits_Mul (P:=Tryz.prog) (ρ:=mulL_ren) { mulL with } 1 n (by omega) (by omega) W;rw[Nat.one_mul,Nat.mod_eq_of_lt (by omega),Nat.div_eq_of_lt (by omega)]at h;exact h.mono fun e w' ⟨h1,h2⟩=>⟨h1,h2.symm⟩
def oneF (m:Nat):Nat→Int:=fun i=>if i<m then 1 else 0
theorem splice_ones (n m k:Nat)(h:m+k≤n):(splice (fnCells n (oneF m)).toList m (List.replicate k (.int .i64 1))).toArray=fnCells n (oneF (m+k)):=by
 have hl:(fnCells n (oneF m)).toList.length=n:=by simp[fnCells]
 apply Array.ext_getElem?;intro i;rw[List.getElem?_toArray];unfold splice;rcases Nat.lt_or_ge i m with h1 | h1
 ·rw[List.getElem?_append_left (by rw[List.length_take];omega),List.getElem?_take,if_pos h1,Array.getElem?_toList,fnCells_get _ _ _ (by omega),fnCells_get _ _ _ (by omega)];unfold oneF;rw[if_pos h1,if_pos (by omega)]
 ·rw[List.getElem?_append_right (by rw[List.length_take];omega),List.length_take,show min m (fnCells n (oneF m)).toList.length=m from by omega];rcases Nat.lt_or_ge i (m+k)with h2 | h2
  ·rw[List.getElem?_append_left (by rw[List.length_replicate];omega),List.getElem?_replicate,if_pos (by omega),fnCells_get _ _ _ (by omega)];unfold oneF;rw[if_pos h2]
  ·rw[List.getElem?_append_right (by rw[List.length_replicate];omega),List.getElem?_drop,List.length_replicate,show m+k+(i-m-k)=i from by omega,Array.getElem?_toList];rcases Nat.lt_or_ge i n with h3 | h3
   ·rw[fnCells_get _ _ _ h3,fnCells_get _ _ _ h3];unfold oneF;rw[if_neg (by omega),if_neg (by omega)]
   ·rw[Array.getElem?_eq_none (by simp[fnCells];omega),Array.getElem?_eq_none (by simp[fnCells];omega)]
structure RepJ (w:World)(g n m k:Nat)(W:World)(b0 b1 b2 b3 b4 b5 b6 b7 b8 b9:Bool)(u38 u39 u40 u41 u42 u43 u44 u45 u46 u8:Value):Prop where
 f0:b0=true→u38=.int .i64 (m:Int)
 f1:b1=true→u39=.slice (some ⟨g,0,none⟩) n n
 f2:b2=true→u40=.int .i64 (m:Int)
 f3:b3=true→u41=.slice (some ⟨g,m,none⟩) (n-m) (n-m)
 f4:b4=true→u42=.slice (some ⟨g,0,none⟩) n n
 f5:b5=true→u43=.int .i64 (m:Int)
 f6:b6=true→u44=.slice (some ⟨g,0,none⟩) m n
 f7:b7=true→u45=.int .i64 (k:Int)
 f8:b8=true→u46=.int .i64 ((m+k:Nat):Int)
 f9:b9=true→u8=.int .i64 ((m+k:Nat):Int)
 g9:b9=false→u8=.int .i64 (m:Int)
 d3:b3=true→b2=true
 d6:b6=true→b5=true
 d7:b7=true→b3=true∧b6=true
 d8:b8=true→b0=true∧b7=true
 d9:b9=true→b8=true
 bel:Below w.heap.size w W
 bk:b7=false→Blk W g 3 (fnCells n (oneF m))
 bd:b7=true→Blk W g 3 (fnCells n (oneF (m+k)))
section
variable {w : World} {g n m k : Nat} {W : World} {b0 b1 b2 b3 b4 b5 b6 b7 b8 b9 : Bool} {u38 u39 u40 u41 u42 u43 u44 u45 u46 u8 : Value}
theorem RepJ.n9 (h:RepJ w g n m k W b0 b1 b2 b3 b4 b5 b6 b7 b8 b9 u38 u39 u40 u41 u42 u43 u44 u45 u46 u8)(hb:(b0 && b2 && b5)=false):u8=.int .i64 (m:Int):=by
 cases b9 with
 |false=>exact h.g9 rfl
 |true=>
  obtain rfl:=h.d9 rfl
  obtain⟨rfl,rfl⟩:=h.d8 rfl
  obtain⟨rfl,rfl⟩:=h.d7 rfl
  obtain rfl:=h.d3 rfl;obtain rfl:=h.d6 rfl;cases hb
end
theorem RepJ.start {w:World}{g n m k:Nat}{W:World}{u38 u39 u40 u41 u42 u43 u44 u45 u46:Value}(hb:Blk W g 3 (fnCells n (oneF m)))(hw:Below w.heap.size w W):RepJ w g n m k W false false false false false false false false false false u38 u39 u40 u41 u42 u43 u44 u45 u46 (.int .i64 (m:Int)):=
 ⟨by simp,by simp,by simp,by simp,by simp,by simp,by simp,by simp,by simp,by simp,fun _=>rfl,by simp,by simp,by simp,by simp,by simp,hw,fun _=>hb,by simp⟩
theorem src_ones {W:World}{g n m k:Nat}(hb:Blk W g 3 (fnCells n (oneF m)))(hk:k≤m)(hm:m≤n):∀(j:Nat)(v:Value),(List.replicate k (Value.int .i64 1))[j]? = some v→W.cell? ((⟨g,0,none⟩:Addr).add j)=some v:=fun j v hj=>by
 have hj1:=(List.getElem?_eq_some_iff.1 hj).1;rw[List.length_replicate]at hj1;rw[List.getElem?_replicate,if_pos hj1]at hj;rw[add_none,Nat.zero_add,← Option.some.inj hj,hb.cell,fnCells_get _ _ _ (by omega)];unfold oneF;rw[if_pos (by omega)]
theorem repeat1_any (xA:OA)(xl xc:Nat)(n:Nat)(w:World)(hx:SlIs intR w xA xl xc [1])(hn:n≤1000000):
  Calls Tryz.prog 136 #[.slice xA xl xc,.int .i64 (n:Int)] w fun e w'=>∃A c,e=.returned (.slice A n c)∧SlIs intR w' A n c (List.replicate n 1)∧Below w.heap.size w w':=by
 have hl:=hx.len;simp only[List.length_cons,List.length_nil,Nat.zero_add]at hl;subst hl;have hmk:=make_int n (by omega);have cM:=mul1_any n hn;have n0:(0:Int)≤(n:Int):=(by omega);have n1:(n:Int)≤1000000:=(by omega);have hc:=hx.cap;have hm:=hx.max
 obtain⟨HX,CM⟩:=Zq2 hx cM;clear hx cM
 go_enter Tryz.func136,Tryz.ntmps136;go_wp2_with fail;go_fit (CM.out _);rintro e w' ⟨rfl,rfl⟩
 have hB0:Blk (w.alloc (.cells (fnCells n fun _=>0) 3)) w.heap.size 3 (fnCells n (oneF 0)):=by
  have:(fun _=>0)=oneF 0:=by funext i;simp[oneF]
  rw[this];exact Blk.new _ _ _
 have hxa:=HX.out.ext (bel_alloc w (.cells (fnCells n fun _=>0) 3));have hbe:=bel_alloc w (.cells (fnCells n fun _=>0) 3);generalize hmn:min 1 n=k1 at *;have hk1:(List.replicate k1 (Value.int .i64 1)).length=Nat.min 1 n:=by rw[List.length_replicate,← hmn]
 have hq1:0<(List.replicate k1 (Value.int .i64 1)).length→∃ad,xA=some ad∧∀j v,(List.replicate k1 (Value.int .i64 1))[j]? = some v→(w.alloc (.cells (fnCells n fun _=>0) 3)).cell? (ad.add j)=some v:=fun _=>by
  obtain⟨b,off,e,_,hc0,_⟩:=hxa.int (k:=0) rfl
  refine⟨_,e,fun j v hj=>?_⟩
  have hj1:=(List.getElem?_eq_some_iff.1 hj).1;rw[List.length_replicate]at hj1;have hj0:j=0:=(by omega);subst hj0;rw[List.getElem?_replicate,if_pos hj1]at hj;rw[add_none,← Option.some.inj hj];exact hc0
 have hq2:0+(List.replicate k1 (Value.int .i64 1)).length≤(fnCells n (oneF 0)).toList.length:=by rw[List.length_replicate];simp[fnCells];omega
 have hq3:∀v∈List.replicate k1 (Value.int .i64 1),v.oneCell'=true:=fun v hv=>by rw[List.eq_of_mem_replicate hv];rfl
 have hsp:=splice_ones n 0 k1 (by omega)
 obtain⟨HB0,HXA,HBE,HK1,HQ1,HQ2,HQ3,HSP,HMN⟩:=Zq9 hB0 hxa hbe hk1 hq1 hq2 hq3 hsp hmn;clear hB0 hxa hbe hk1 hq1 hq2 hq3 hsp hmn
 go_wp2_with (refine wpList_copy_splice rfl (.tmp 31) (.tmp 32) 23 23 rfl 3 Tryz.underlying23 (by kernel_rfl) (some ⟨w.heap.size,0,none⟩) xA n n 1 xc rfl rfl w.heap.size 0 (fnCells n (oneF 0)).toList 3 HB0.out (List.replicate k1 (.int .i64 1)) HK1.out (fun h=>⟨rfl,HQ1.out h⟩) HQ2.out HQ3.out w.heap.size w HBE.out (Nat.le_refl _) ?_;intro w2 hg2 hb2);rw[HSP.out,Nat.zero_add]at hg2;have hB2:Blk w2 w.heap.size 3 (fnCells n (oneF k1)):=hg2.out;have hkn:k1≤n∧(0<n→1≤k1):=by have:=HMN.out;omega
 clear hg2 HB0 HXA HBE HK1 HQ1 HQ2 HQ3 HSP;have HKN:=Zq1 hkn;clear hkn;have HB2_:=Zq1 hb2;clear hb2;have HB2:=Zq1 hB2;clear hB2;go_loopw [8] (fun t wr=>∃(m:Nat),m≤n∧(0<n→1≤m)∧t=.int .i64 (m:Int)∧Blk wr w.heap.size 3 (fnCells n (oneF m))∧Below w.heap.size w wr) (fun t _=>n-(intOf t).toNat)
 case atStart=>exact⟨k1,HKN.out.1,HKN.out.2,rfl,HB2.out,HB2_.out⟩
 case round=>
  obtain⟨m,hm1,hm2,rfl,hbm,hbwm⟩:=hrel
  by_cases hlt:m<n
  ·have hm3:1≤m:=hm2 (by omega);clear hm2
   obtain⟨k2,hk2⟩:∃k2,k2=min m (n-m):=⟨_,rfl⟩
   have hkl:(List.replicate k2 (Value.int .i64 1)).length=Nat.min m (n-m):=(by rw[List.length_replicate];exact hk2);have hkm:k2≤m:=(by omega);have hk0:1≤k2:=(by omega);have hkn:m+k2≤n:=(by omega);have hq4:m+(List.replicate k2 (Value.int .i64 1)).length≤(fnCells n (oneF m)).toList.length:=(by rw[List.length_replicate];simp[fnCells];omega);have hq5:∀v∈List.replicate k2 (Value.int .i64 1),v.oneCell'=true:=fun v hv=>by rw[List.eq_of_mem_replicate hv];rfl
   have hsp2:=splice_ones n m k2 hkn;have HKM:=Zq1 hkm;have HK2:=Zq1 hkl;clear hk2 hkl
   obtain⟨HQ4,HQ5,HSP2,HBM,HBWM⟩:=Zq5 hq4 hq5 hsp2 hbm hbwm;clear hq4 hq5 hsp2 hbm hbwm
   go_wp2_with fail;refine wp_region_inv (fun listed a' w'=>∃(b0 b1 b2 b3 b4 b5 b6 b7 b8 b9:Bool) (u38 u39 u40 u41 u42 u43 u44 u45 u46 u8:Value),listed=#[b0,b1,b2,b3,b4,b5,b6,b7,b8,b9]∧a'={ tmps:=#[.slice xA 1 xc,.int .i64 (n:Int),undef,undef,.slice none 0 0,Value.int IntKind.u64 0,Value.int IntKind.u64 (n:Int),.slice (some ⟨w.heap.size,0,none⟩) n n,u8,.int .i64 (n:Int),.bool (decide ((n:Int)<0)),undef,Value.tuple #[Value.int IntKind.u64 0,Value.int IntKind.u64 (n:Int)],.slice xA 1 xc,.int .i64 1,Value.int IntKind.u64 1,.int .i64 (n:Int),Value.int IntKind.u64 (n:Int),Value.tuple #[Value.int IntKind.u64 0,Value.int IntKind.u64 (n:Int)],Value.int IntKind.u64 0,Value.int IntKind.u64 (n:Int),Value.int IntKind.u64 0,.bool false,.bool false,Value.int IntKind.u64 (n:Int),.bool (decide (9223372036854775807<(n:Int))),.bool (decide (9223372036854775807<(n:Int))),undef,Value.int IntKind.u64 (n:Int),.int .i64 (n:Int),.slice (some ⟨w.heap.size,0,none⟩) n n,.slice (some ⟨w.heap.size,0,none⟩) n n,.slice xA 1 xc,.int .i64 (k1:Int),.int .i64 (m:Int),.slice (some ⟨w.heap.size,0,none⟩) n n,.int .i64 (n:Int),.bool true,u38,u39,u40,u41,u42,u43,u44,u45,u46,undef],defers:=[] }∧RepJ w w.heap.size n m k2 w' b0 b1 b2 b3 b4 b5 b6 b7 b8 b9 u38 u39 u40 u41 u42 u43 u44 u45 u46 u8) (by kernel_rfl) ?start ?step ?fin
   case start=>exact⟨false,false,false,false,false,false,false,false,false,false,_,_,_,_,_,_,_,_,_,_,rfl,rfl,RepJ.start HBM.out.drew (bel_trans HBWM.out (Below.refl _ _).drew)⟩
   case step=>
    rintro listed a' w' i o ⟨b0,b1,b2,b3,b4,b5,b6,b7,b8,b9,u38,u39,u40,u41,u42,u43,u44,u45,u46,u8,rfl,rfl,h⟩ ho hli hd K hK;have Zqx:=fun i h=>hd ⟨i,.data⟩ h rfl
    match i,ho,hli,hd with
    |0,ho,hli,hd=>obtain⟨rfl,rfl⟩:_∧b0=false:=Zqj ho hli;obtain rfl:=h.n9 (by simp);go_simp;exact hK _ _ ⟨_,_,_,_,_,_,_,_,_,_,_,_,_,_,_,_,_,_,_,_,rfl,rfl,{ h with f0:=fun _=>rfl,d8:=fun e=>⟨rfl,(h.d8 e).2⟩ }⟩
    |1,ho,hli,hd=>obtain⟨rfl,rfl⟩:_∧b1=false:=Zqj ho hli;go_simp;exact hK _ _ ⟨_,_,_,_,_,_,_,_,_,_,_,_,_,_,_,_,_,_,_,_,rfl,rfl,{ h with f1:=fun _=>rfl }⟩
    |2,ho,hli,hd=>obtain⟨rfl,rfl⟩:_∧b2=false:=Zqj ho hli;obtain rfl:=h.n9 (by simp);go_simp;exact hK _ _ ⟨_,_,_,_,_,_,_,_,_,_,_,_,_,_,_,_,_,_,_,_,rfl,rfl,{ h with f2:=fun _=>rfl,d3:=fun _=>rfl }⟩
    |3,ho,hli,hd=>obtain⟨rfl,rfl⟩:_∧b3=false:=Zqj ho hli;obtain rfl:b1=true:=Zqx 1 (by simp);obtain rfl:b2=true:=Zqx 2 (by simp);obtain rfl:=h.f1 rfl;obtain rfl:=h.f2 rfl;go_simp;exact hK _ _ ⟨_,_,_,_,_,_,_,_,_,_,_,_,_,_,_,_,_,_,_,_,rfl,rfl,{ h with f3:=fun _=>by first | rfl | (simp;omega),d3:=fun _=>rfl,d7:=fun e=>⟨rfl,(h.d7 e).2⟩ }⟩
    |4,ho,hli,hd=>obtain⟨rfl,rfl⟩:_∧b4=false:=Zqj ho hli;go_simp;exact hK _ _ ⟨_,_,_,_,_,_,_,_,_,_,_,_,_,_,_,_,_,_,_,_,rfl,rfl,{ h with f4:=fun _=>rfl }⟩
    |5,ho,hli,hd=>obtain⟨rfl,rfl⟩:_∧b5=false:=Zqj ho hli;obtain rfl:=h.n9 (by simp);go_simp;exact hK _ _ ⟨_,_,_,_,_,_,_,_,_,_,_,_,_,_,_,_,_,_,_,_,rfl,rfl,{ h with f5:=fun _=>rfl,d6:=fun _=>rfl }⟩
    |6,ho,hli,hd=>obtain⟨rfl,rfl⟩:_∧b6=false:=Zqj ho hli;obtain rfl:b4=true:=Zqx 4 (by simp);obtain rfl:b5=true:=Zqx 5 (by simp);obtain rfl:=h.f4 rfl;obtain rfl:=h.f5 rfl;go_simp;exact hK _ _ ⟨_,_,_,_,_,_,_,_,_,_,_,_,_,_,_,_,_,_,_,_,rfl,rfl,{ h with f6:=fun _=>rfl,d6:=fun _=>rfl,d7:=fun e=>⟨(h.d7 e).1,rfl⟩ }⟩
    |7,ho,hli,hd=>obtain⟨rfl,rfl⟩:_∧b7=false:=Zqj ho hli;obtain rfl:b3=true:=Zqx 3 (by simp);obtain rfl:b6=true:=Zqx 6 (by simp);obtain rfl:=h.f3 rfl;obtain rfl:=h.f6 rfl;have hbk:=h.bk rfl;have hsrc:=fun(h0:0<(List.replicate k2 (Value.int .i64 1)).length)=>src_ones hbk (k:=k2) (m:=m) HKM.out (by omega);refine step_copy_splice rfl (.tmp 41) (.tmp 44) 23 23 rfl 3 Tryz.underlying23 (by kernel_rfl) (some ⟨w.heap.size,m,none⟩) (some ⟨w.heap.size,0,none⟩) (n-m) (n-m) m n rfl rfl w.heap.size m (fnCells n (oneF m)).toList 3 hbk (List.replicate k2 (.int .i64 1)) HK2.out (fun h0=>⟨rfl,_,rfl,hsrc h0⟩) HQ4.out HQ5.out w.heap.size w h.bel (Nat.le_refl _) ?_;intro w5 hg5 hb5;rw[HSP2.out]at hg5;rw[show goInt (List.replicate k2 (Value.int .i64 1)).length=.int .i64 (k2:Int) from by rw[List.length_replicate];rfl];exact hK _ _ ⟨_,_,_,_,_,_,_,_,_,_,_,_,_,_,_,_,_,_,_,_,rfl,rfl,{ h with f7:=fun _=>rfl,d7:=fun _=>⟨rfl,rfl⟩,d8:=fun e=>⟨(h.d8 e).1,rfl⟩,bel:=hb5,bk:=by simp,bd:=fun _=>hg5.out }⟩
    |8,ho,hli,hd=>obtain⟨rfl,rfl⟩:_∧b8=false:=Zqj ho hli;obtain rfl:b0=true:=Zqx 0 (by simp);obtain rfl:b7=true:=Zqx 7 (by simp);obtain rfl:=h.f0 rfl;obtain rfl:=h.f7 rfl;go_simp;exact hK _ _ ⟨_,_,_,_,_,_,_,_,_,_,_,_,_,_,_,_,_,_,_,_,rfl,rfl,{ h with f8:=fun _=>by rw[show IntKind.i64.wrap ((m:Int)+(k2:Int))=((m+k2:Nat):Int) by rw[IntWalk.i64_in _ (by omega)];omega],d8:=fun _=>⟨rfl,rfl⟩,d9:=fun _=>rfl }⟩
    |9,ho,hli,hd=>obtain⟨rfl,rfl⟩:_∧b9=false:=Zqj ho hli;obtain rfl:b8=true:=Zqx 8 (by simp);obtain rfl:=h.f8 rfl;go_simp;exact hK _ _ ⟨_,_,_,_,_,_,_,_,_,_,_,_,_,_,_,_,_,_,_,_,rfl,rfl,{ h with f9:=fun _=>rfl,g9:=by simp,d9:=fun _=>rfl }⟩
    |i+10,ho,hli,hd=>simp at ho
   case fin=>
    rintro listed a' w' ⟨b0,b1,b2,b3,b4,b5,b6,b7,b8,b9,u38,u39,u40,u41,u42,u43,u44,u45,u46,u8,rfl,rfl,h⟩ hr;obtain rfl:b0=true:=Zqn hr 0 rfl;obtain rfl:b1=true:=Zqn hr 1 rfl;obtain rfl:b2=true:=Zqn hr 2 rfl;obtain rfl:b3=true:=Zqn hr 3 rfl;obtain rfl:b4=true:=Zqn hr 4 rfl;obtain rfl:b5=true:=Zqn hr 5 rfl;obtain rfl:b6=true:=Zqn hr 6 rfl;obtain rfl:b7=true:=Zqn hr 7 rfl;obtain rfl:b8=true:=Zqn hr 8 rfl;obtain rfl:b9=true:=Zqn hr 9 rfl;clear hr;have hbd:=h.bd rfl;have hbl:=h.bel;obtain rfl:=h.f0 rfl;obtain rfl:=h.f1 rfl;obtain rfl:=h.f2 rfl;obtain rfl:=h.f3 rfl;obtain rfl:=h.f4 rfl;obtain rfl:=h.f5 rfl;obtain rfl:=h.f6 rfl;obtain rfl:=h.f7 rfl;obtain rfl:=h.f8 rfl;obtain rfl:=h.f9 rfl;clear h
    obtain⟨HBD,HBL⟩:=Zq2 hbd hbl;clear hbd hbl
    go_wp2_with fail;go_roundw;exact⟨m+k2,by omega,by omega,by go_num,HBD.out,HBL.out⟩;simp[intOf];omega
  ·obtain rfl:n=m:=(by omega);have hsl:=sl_of_blk hbm (by omega) (fun i _=>by unfold oneF;split <;> simp[I64])
   have hrep:(List.range n).map (oneF n)=List.replicate n 1:=by
    apply List.ext_getElem
    ·simp
    ·intro i h1 h2;simp at h1;simp[oneF,h1]
   rw[hrep]at hsl;have HBWM:=Zq1 hbwm;clear hbwm hm2
   obtain⟨HBM,HSL,HREP⟩:=Zq3 hbm hsl hrep;clear hbm hsl hrep
   go_wp2_with fail;go_ret
   exact⟨_,_,rfl,HSL.out,HBWM.out⟩
theorem ones_any (n:Nat)(w:World)(hn:n≤1000000):
  Calls Tryz.prog 113 #[.int .i64 (n:Int)] w fun e w'=>∃A c,e=.returned (.slice A n c)∧SlIs intR w' A n c (List.replicate n 1)∧Below w.heap.size w w':=by
 have hb0:=bel_alloc w (.cells #[.int .i64 1] 3);have hx:=sl_one' (W:=w.alloc (.cells #[.int .i64 1] 3)) (Blk.new w 3 #[.int .i64 1]) (by simp[I64]);have cR:=repeat1_any (some ⟨w.heap.size,0,none⟩) 1 1 n _ hx hn
 obtain⟨HB0,HX,CR⟩:=Zq3 hb0 hx cR;clear hb0 hx cR
 go_enter Tryz.func113,Tryz.ntmps113;go_wp2_with fail;go_fit CR.out;rintro e w2 ⟨A,c,rfl,hs,hb2⟩;have hbw:=bel_trans HB0.out hb2
 obtain⟨HS,HBW,HB2⟩:=Zq3 hs hbw hb2;clear hs hbw hb2
 go_wp2_with fail;go_ret
 exact⟨_,_,rfl,HS.out,HBW.out⟩
open Go.RowKit
structure NrmJ (X:World)(B g:Nat)(hv:Value)(hl:Nat)(xs:LI)(ch sm:Bool)(z:Int)(W:World)(b0 b1 b2 b3 b4 b5 b6 b7 b8 b9 b10 b11:Bool)(u116 u117 u118 u119 u120 u121 u122 u123 u124 u125 u126:Value):Prop where
 kept:Kept [g] X W
 f0:b0=true→u117=.pointer (some ⟨B,1,none⟩)
 f1:b1=true→u118=hv
 f2:b2=true→u119=.pointer (some ⟨B,1,none⟩)
 f3:b3=true→u120=hv
 f4:b4=true→u121=.int .i64 (hl:Int)
 f5:b5=true→b6=false→∃A c,u122=.slice A hl c∧SlIs intR W A hl c (List.replicate hl 1)
 f10:b10=true→u126=.pointer (some ⟨g,1,none⟩)
 d6:b6=true→b1=true∧b5=true
 d7:b7=true→b6=true
 d8:b8=true→b7=true
 d9:b9=true→b7=true
 d11:b11=true→b8=true∧b10=true
 row:b6=true→∃A l c D k q,u123=.tuple #[.slice A l c,.slice D k q]∧SlIs intR W A l c (litsOf xs)∧Frs X.heap.size A l∧(b7=true→u116=.tuple #[.slice A l c,.slice D k q])∧(b8=true→u124=.slice A l c) ∧
  (b11=true→Blk W g 42 #[.bool ch,.slice A l c,.bool sm,.int .i64 z,.slice none 0 0,.slice none 0 0])
 blk:b11=false→Blk W g 42 #[.bool ch,.slice none 0 0,.bool sm,.int .i64 z,.slice none 0 0,.slice none 0 0]
section
variable {X : World} {B g : Nat} {hv : Value} {hl : Nat} {xs : LI} {ch sm : Bool} {z : Int} {W W' : World} {b0 b1 b2 b3 b4 b5 b6 b7 b8 b9 b10 b11 : Bool} {u116 u117 u118 u119 u120 u121 u122 u123 u124 u125 u126 : Value}
theorem NrmJ.start {W:World}(hk:Kept [g] X W)(hb:Blk W g 42 #[.bool ch,.slice none 0 0,.bool sm,.int .i64 z,.slice none 0 0,.slice none 0 0]):NrmJ X B g hv hl xs ch sm z W false false false false false false false false false false false false u116 u117 u118 u119 u120 u121 u122 u123 u124 u125 u126:=by
 refine⟨hk,?_,?_,?_,?_,?_,?_,?_,?_,?_,?_,?_,?_,?_,?_⟩ <;> simp <;> try exact hb
theorem NrmJ.op5 (h:NrmJ X B g hv hl xs ch sm z W b0 b1 b2 b3 b4 false b6 b7 b8 b9 b10 b11 u116 u117 u118 u119 u120 u121 u122 u123 u124 u125 u126)(hb:Below W.heap.size W W'){A:OA}{c:Nat}(hs:SlIs intR W' A hl c (List.replicate hl 1)):NrmJ X B g hv hl xs ch sm z W' b0 b1 b2 b3 b4 true b6 b7 b8 b9 b10 b11 u116 u117 u118 u119 u120 u121 (.slice A hl c) u123 u124 u125 u126:=by
 have e6:b6=false:=by
  cases hb6:b6 with
  |false=>rfl
  |true=>exact absurd (h.d6 hb6).2 (by simp)
 have e11:b11=false:=by
  cases hb11:b11 with
  |false=>rfl
  |true=>have:=h.d7 (h.d8 (h.d11 hb11).1);rw[e6]at this;cases this
 subst e6 e11;exact { h with kept:=h.kept.bel hb,f5:=fun _ _=>⟨_,_,rfl,hs⟩,d6:=fun e=>⟨(h.d6 e).1,rfl⟩,row:=fun e=>absurd e (by simp),blk:=fun _=>(h.blk rfl).bel hb }
theorem NrmJ.op6 (h:NrmJ X B g hv hl xs ch sm z W b0 true b2 b3 b4 true false b7 b8 b9 b10 b11 u116 u117 u118 u119 u120 u121 u122 u123 u124 u125 u126)(hb:Below W.heap.size W W'){A D:OA}{l c k q:Nat}(hs:SlIs intR W' A l c (litsOf xs))(hf:Frs W.heap.size A l):NrmJ X B g hv hl xs ch sm z W' b0 true b2 b3 b4 true true b7 b8 b9 b10 b11 u116 u117 u118 u119 u120 u121 u122 (.tuple #[.slice A l c,.slice D k q]) u124 u125 u126:=by
 have e11:b11=false:=by
  cases hb11:b11 with
  |false=>rfl
  |true=>have:=h.d7 (h.d8 (h.d11 hb11).1);cases this
 have e7:b7=false:=by
  cases hb7:b7 with
  |false=>rfl
  |true=>have:=h.d7 hb7;cases this
 have e8:b8=false:=by
  cases hb8:b8 with
  |false=>rfl
  |true=>have:=h.d8 hb8;rw[e7]at this;cases this
 subst e11 e7 e8;exact { h with kept:=h.kept.bel hb,f5:=fun _ e=>absurd e (by simp),d6:=fun _=>⟨rfl,rfl⟩,d7:=fun _=>rfl,row:=fun _=>⟨A,l,c,D,k,q,rfl,hs,hf.mono h.kept.size,by simp,by simp,by simp⟩,blk:=fun _=>(h.blk rfl).bel hb }
theorem NrmJ.op7 (h:NrmJ X B g hv hl xs ch sm z W b0 b1 b2 b3 b4 b5 true false b8 b9 b10 b11 u116 u117 u118 u119 u120 u121 u122 u123 u124 u125 u126):NrmJ X B g hv hl xs ch sm z W b0 b1 b2 b3 b4 b5 true true b8 b9 b10 b11 u123 u117 u118 u119 u120 u121 u122 u123 u124 u125 u126:=by
 have e8:b8=false:=by
  cases hb8:b8 with
  |false=>rfl
  |true=>have:=h.d8 hb8;cases this
 have e11:b11=false:=by
  cases hb11:b11 with
  |false=>rfl
  |true=>have:=(h.d11 hb11).1;rw[e8]at this;cases this
 subst e8 e11
 obtain⟨A,l,c,D,k,q,e,r1,r2,r3,r4,r5⟩:=h.row rfl
 exact { h with d7:=fun _=>rfl,d8:=fun _=>rfl,d9:=fun _=>rfl,row:=fun _=>⟨A,l,c,D,k,q,e,r1,r2,fun _=>e,by simp,by simp⟩ }
theorem NrmJ.op8 (h:NrmJ X B g hv hl xs ch sm z W b0 b1 b2 b3 b4 b5 b6 true false b9 b10 b11 u116 u117 u118 u119 u120 u121 u122 u123 u124 u125 u126):∃A l c D k q,u116=.tuple #[.slice A l c,.slice D k q]∧NrmJ X B g hv hl xs ch sm z W b0 b1 b2 b3 b4 b5 b6 true true b9 b10 b11 u116 u117 u118 u119 u120 u121 u122 u123 (.slice A l c) u125 u126:=by
 have e11:b11=false:=by
  cases hb11:b11 with
  |false=>rfl
  |true=>have:=(h.d11 hb11).1;cases this
 subst e11;have e6:=h.d7 rfl;subst e6
 obtain⟨A,l,c,D,k,q,e,r1,r2,r3,r4,r5⟩:=h.row rfl
 exact⟨A,l,c,D,k,q,r3 rfl,{ h with d8:=fun _=>rfl,d11:=fun e=>absurd e (by simp),row:=fun _=>⟨A,l,c,D,k,q,e,r1,r2,r3,fun _=>rfl,by simp⟩ }⟩
theorem NrmJ.tup (h:NrmJ X B g hv hl xs ch sm z W b0 b1 b2 b3 b4 b5 b6 true b8 b9 b10 b11 u116 u117 u118 u119 u120 u121 u122 u123 u124 u125 u126):∃A l c D k q,u116=.tuple #[.slice A l c,.slice D k q]:=by
 have e6:=h.d7 rfl;subst e6
 obtain⟨A,l,c,D,k,q,e,r1,r2,r3,r4,r5⟩:=h.row rfl
 exact⟨A,l,c,D,k,q,r3 rfl⟩
theorem NrmJ.op11 (h:NrmJ X B g hv hl xs ch sm z W b0 b1 b2 b3 b4 b5 b6 b7 true b9 true false u116 u117 u118 u119 u120 u121 u122 u123 u124 u125 u126)(hgX:g<X.heap.size):∃A l c,u124=.slice A l c∧W.cell? ⟨g,1,none⟩=some (.slice none 0 0)∧W.frozen? ⟨g,1,none⟩=false∧NrmJ X B g hv hl xs ch sm z (W.setCell ⟨g,1,none⟩ (.slice A l c)) b0 b1 b2 b3 b4 b5 b6 b7 true b9 true true u116 u117 u118 u119 u120 u121 u122 u123 u124 u125 u126:=by
 have e7:=h.d8 rfl;subst e7;have e6:=h.d7 rfl;subst e6
 obtain⟨A,l,c,D,k,q,e,r1,r2,r3,r4,r5⟩:=h.row rfl
 have hB:=h.blk rfl;have k1:Kept [g] W (W.setCell ⟨g,1,none⟩ (.slice A l c)):=(Kept.refl _ _).set (.inl (by simp)) _
 refine⟨A,l,c,r4 rfl,hB.cell 1,hB.frozen 1,{ h with kept:=h.kept.trans k1,f5:=fun _ e=>absurd e (by simp),d11:=fun _=>⟨rfl,rfl⟩,row:=fun _=>⟨A,l,c,D,k,q,e,r1.keptM k1 (fun h0 ad ea hm=>by have:=r2 h0 ad ea;simp at hm;omega),r2,r3,r4,fun _=>hB.set_ 1 _⟩,blk:=fun e=>absurd e (by simp) }⟩
theorem ones_sum:∀k:Nat,(List.replicate k (1:Int)).sum=(k:Int)
 |0=>rfl
 |k+1=>by rw[List.replicate_succ,List.sum_cons,ones_sum k];omega
end
open Go.RowKit Go.Shelf
structure PreRule (r:GRule)(n:Int):Prop where
 n0:0≤n
 n1:n≤4000
 head:∀a∈r.head,1≤a∧a≤n
 choice:r.choice=true→r.head≠[]
 body:∀x∈r.body,litB x n=true
 plain:r.sum=false→r.w=[]∧r.bound=0
 wlen:r.sum=true→r.w.length=r.body.length
 wt:r.sum=true→wtGo 0 r.w=true
 b0:r.sum=true→0≤r.bound
 b1:r.sum=true→r.bound≤1048576
 hl:r.head.length≤100000
 bl:r.body.length≤100000
def normR (r:GRule):GRule:={ r with head:=litsOf r.head,body:=litsOf r.body,w:=if r.sum then(litsOf r.body).map (totP (r.body.zip r.w))else[] }
theorem norm1_any (B:Nat)(n x:Int)(w:World)(hbox:w.cell? ⟨B,0,none⟩=some (.int .i64 n)):
  Calls Tryz.prog 111 (#[.int .i64 x]++#[.pointer (some ⟨B,0,none⟩)]) w fun e w'=>e=.returned (.bool (decide (x<1) || decide (n<x)))∧Below w.heap.size w w':=by
 show Calls Tryz.prog 111 #[.int .i64 x,.pointer (some ⟨B,0,none⟩)] w _
 by_cases h1:x<1
 ·rw[decide_eq_true h1];go_enter Tryz.func111,Tryz.ntmps111;go_wp2_with fail;go_ret
  exact⟨rfl,Below.refl _ _⟩
 ·rw[decide_eq_false h1];go_enter Tryz.func111,Tryz.ntmps111;go_wp2_with fail;go_ret
  exact⟨by simp,Below.refl _ _⟩
theorem norm2_any (B:Nat)(n x:Int)(w:World)(hbox:w.cell? ⟨B,0,none⟩=some (.int .i64 n))(hx:I64 x)(hn0:0≤n)(hn1:n≤4000):
  Calls Tryz.prog 112 (#[.int .i64 x]++#[.pointer (some ⟨B,0,none⟩)]) w fun e w'=>e=.returned (.bool (!litB x n))∧Below w.heap.size w w':=by
 show Calls Tryz.prog 112 #[.int .i64 x,.pointer (some ⟨B,0,none⟩)] w _;have cL:=literal_any x n w hn0 hn1
 obtain⟨HX,CL⟩:=Zq2 hx cL;clear hx cL
 go_enter Tryz.func112,Tryz.ntmps112;go_wp2_with fail;go_fit CL.out;rintro e w' ⟨rfl,rfl⟩;go_wp2_with fail;go_ret
 exact⟨rfl,Below.refl _ _⟩
theorem pre_head {r:GRule}{n:Int}(h:PreRule r n):(r.head.any fun x=>decide (x<1) || decide (n<x))=false:=by
 rw[List.any_eq_false];intro x hx
 have:=h.head x hx
 simp;omega
theorem pre_body {r:GRule}{n:Int}(h:PreRule r n):(r.body.any fun x=>!litB x n)=false:=by
 rw[List.any_eq_false];intro x hx;simp[h.body x hx]
theorem lit_low {x n:Int}(h:litB x n=true)(hn:n≤4000) : -9223372036854775807≤x:=by
 unfold litB at h;simp at h;omega
theorem normP_any (r:GRule)(hA:OA)(hl hc:Nat)(bA:OA)(bl bc:Nat)(wA:OA)(wl wc:Nat)(n:Int)(ch:Bool)(w:World)(hr:RuleIn w r hA hl hc bA bl bc wA wl wc)(hp:PreRule r n)(hs:r.sum=false)(hch:r.choice=ch):
  Calls Tryz.prog 69 #[.agg #[.bool r.choice,.slice hA hl hc,.bool r.sum,.int .i64 r.bound,.slice bA bl bc,.slice wA wl wc],.int .i64 n] w fun e w'=>∃(hA':OA) (hl' hc':Nat) (bA':OA) (bl' bc':Nat) (wA':OA) (wl' wc':Nat),e=.returned (.tuple #[ruleV (normR r) (.slice hA' hl' hc') (.slice bA' bl' bc') (.slice wA' wl' wc'),.int .i64 0]) ∧
   RuleIn w' (normR r) hA' hl' hc' bA' bl' bc' wA' wl' wc'∧Frs w.heap.size hA' hl'∧Frs w.heap.size bA' bl'∧Frs w.heap.size wA' wl'∧Below w.heap.size w w':=by
 have hn0:=hp.n0;have hn1:=hp.n1;have hhc:=hr.head.cap;have hhm:=hr.head.max;have hbc:=hr.body.cap;have hbm:=hr.body.max;have hhl:=hr.head.len;have hbl:=hr.body.len;have hl5:hl≤100000:=by have:=hp.hl;omega
 have bl5:bl≤100000:=by have:=hp.bl;omega
 have hwz:wl=0:=by rw[hr.wt.len,(hp.plain hs).1];rfl
 have hbz:r.bound=0:=(hp.plain hs).2;subst hwz
 have hc0:ch=true→((hl:Int)==0)=false:=fun e=>by
  have h1:=hp.choice (by rw[hch,e])
  have:r.head.length≠0:=fun h=>h1 (List.eq_nil_of_length_eq_zero h)
  simp;omega
 have hW:Blk ((((w.alloc (.cells #[.bool ch,.slice hA hl hc,.bool false,.int .i64 0,.slice bA bl bc,.slice wA 0 wc] 42)).alloc (.cells #[.int .i64 n] 3)).alloc (.cells #[.bool false,.slice none 0 0,.bool false,.int .i64 0,.slice none 0 0,.slice none 0 0] 42)).alloc (.cells #[.bool false,.slice none 0 0,.bool false,.int .i64 0,.slice none 0 0,.slice none 0 0] 42)) w.heap.size 42 #[.bool ch,.slice hA hl hc,.bool false,.int .i64 0,.slice bA bl bc,.slice wA 0 wc]∧Blk ((((w.alloc (.cells #[.bool ch,.slice hA hl hc,.bool false,.int .i64 0,.slice bA bl bc,.slice wA 0 wc] 42)).alloc (.cells #[.int .i64 n] 3)).alloc (.cells #[.bool false,.slice none 0 0,.bool false,.int .i64 0,.slice none 0 0,.slice none 0 0] 42)).alloc (.cells #[.bool false,.slice none 0 0,.bool false,.int .i64 0,.slice none 0 0,.slice none 0 0] 42)) (w.heap.size+1) 3 #[.int .i64 n]∧Blk ((((w.alloc (.cells #[.bool ch,.slice hA hl hc,.bool false,.int .i64 0,.slice bA bl bc,.slice wA 0 wc] 42)).alloc (.cells #[.int .i64 n] 3)).alloc (.cells #[.bool false,.slice none 0 0,.bool false,.int .i64 0,.slice none 0 0,.slice none 0 0] 42)).alloc (.cells #[.bool false,.slice none 0 0,.bool false,.int .i64 0,.slice none 0 0,.slice none 0 0] 42)) (w.heap.size+1+1) 42 #[.bool false,.slice none 0 0,.bool false,.int .i64 0,.slice none 0 0,.slice none 0 0]∧Blk ((((w.alloc (.cells #[.bool ch,.slice hA hl hc,.bool false,.int .i64 0,.slice bA bl bc,.slice wA 0 wc] 42)).alloc (.cells #[.int .i64 n] 3)).alloc (.cells #[.bool false,.slice none 0 0,.bool false,.int .i64 0,.slice none 0 0,.slice none 0 0] 42)).alloc (.cells #[.bool false,.slice none 0 0,.bool false,.int .i64 0,.slice none 0 0,.slice none 0 0] 42)) (w.heap.size+1+1+1) 42 #[.bool false,.slice none 0 0,.bool false,.int .i64 0,.slice none 0 0,.slice none 0 0]∧Below w.heap.size w ((((w.alloc (.cells #[.bool ch,.slice hA hl hc,.bool false,.int .i64 0,.slice bA bl bc,.slice wA 0 wc] 42)).alloc (.cells #[.int .i64 n] 3)).alloc (.cells #[.bool false,.slice none 0 0,.bool false,.int .i64 0,.slice none 0 0,.slice none 0 0] 42)).alloc (.cells #[.bool false,.slice none 0 0,.bool false,.int .i64 0,.slice none 0 0,.slice none 0 0] 42))∧(((((w.alloc (.cells #[.bool ch,.slice hA hl hc,.bool false,.int .i64 0,.slice bA bl bc,.slice wA 0 wc] 42)).alloc (.cells #[.int .i64 n] 3)).alloc (.cells #[.bool false,.slice none 0 0,.bool false,.int .i64 0,.slice none 0 0,.slice none 0 0] 42)).alloc (.cells #[.bool false,.slice none 0 0,.bool false,.int .i64 0,.slice none 0 0,.slice none 0 0] 42))).heap.size=w.heap.size+4:=
  ⟨(((blk_new rfl _ _).alloc _).alloc _).alloc _,((blk_new (by simp) _ _).alloc _).alloc _,(blk_new (by simp) _ _).alloc _,blk_new (by simp) _ _,bel_trans (bel_trans (bel_trans (bel_alloc _ _) (bel_alloc _ _)) (bel_alloc _ _)) (bel_alloc _ _),by simp⟩
 have hpb:=pre_body hp;have hph:=pre_head hp;have hnr:normR r=⟨ch,litsOf r.head,false,0,litsOf r.body,[]⟩:=by unfold normR;rw[hs,hch,hbz];rfl
 rw[hs,hch,hbz]
 obtain⟨HR,HP,HS,HCH,HHL,HBL,HBZ,HPB,HPH,HNR⟩:=Zq10 hr hp hs hch hhl hbl hbz hpb hph hnr;clear hr hp hs hch hhl hbl hbz hpb hph hnr
 obtain⟨W0,hW0⟩:∃W0,W0=((((w.alloc (.cells #[.bool ch,.slice hA hl hc,.bool false,.int .i64 0,.slice bA bl bc,.slice wA 0 wc] 42)).alloc (.cells #[.int .i64 n] 3)).alloc (.cells #[.bool false,.slice none 0 0,.bool false,.int .i64 0,.slice none 0 0,.slice none 0 0] 42)).alloc (.cells #[.bool false,.slice none 0 0,.bool false,.int .i64 0,.slice none 0 0,.slice none 0 0] 42)):=⟨_,rfl⟩
 rw[← hW0]at hW
 obtain⟨bR,bN,bZ,bO,bW,hsz⟩:=hW
 have cCH:=fun W (hb:Below W0.heap.size W0 W)=>containsFuncI_any hA hl hc r.head 111 #[.pointer (some ⟨w.heap.size+1,0,none⟩)] (fun x=>decide (x<1) || decide (n<x)) W (HR.out.head.ext (bel_trans bW hb)) (fun args W=>by kernel_rfl)
  (fun W' x hb' _ _=>norm1_any (w.heap.size+1) n x W' (((bN.bel hb).bel hb').cell 0))
 have cCB:=fun W (hb:Below W0.heap.size W0 W)=>containsFuncI_any bA bl bc r.body 112 #[.pointer (some ⟨w.heap.size+1,0,none⟩)] (fun x=>!litB x n) W (HR.out.body.ext (bel_trans bW hb)) (fun args W=>by kernel_rfl)
  (fun W' x hb' _ hx=>norm2_any (w.heap.size+1) n x W' (((bN.bel hb).bel hb').cell 0) hx hn0 hn1)
 rw[HPH.out]at cCH;rw[HPB.out]at cCB
 obtain⟨BW,HSZ,CCH,CCB⟩:=Zq4 bW hsz cCH cCB;clear bW hsz cCH cCB
 have HBR:=Zq1 bR;have HBN:=Zq1 bN;have HBZ:=Zq1 bZ;have HBO:=Zq1 bO;have n0:=bN.cell 0;clear bR bN bZ bO;go_enter Tryz.func69,Tryz.ntmps69;rw[hW0]at n0
 cases ch with
 |true=>
  have hc1:=hc0 rfl;clear hc0;go_wp2_with fail;rw[← hW0];clear hW0 n0;go_fit (CCH.out W0 (Below.refl _ _));rintro e w1 ⟨rfl,hb1⟩;have q4:w1.cell? ⟨w.heap.size,4,none⟩=some (.slice bA bl bc):=(HBR.out.bel hb1).cell 4;have HB1:=Zq1 hb1;clear hb1;go_wp2_with fail;go_fit (CCB.out w1 HB1.out);rintro e w2 ⟨rfl,hb2⟩;have hb2':=bel_trans HB1.out hb2;clear q4;have q4:w2.cell? ⟨w.heap.size,4,none⟩=some (.slice bA bl bc):=(HBR.out.bel hb2').cell 4;have HB2':=Zq1 hb2';clear hb2';clear hb2;go_wp2_with fail;go_fit (ones_any bl w2 (by omega));rintro e w3 ⟨oA,oc,rfl,hos,hb3⟩;have hb3':=bel_trans HB2'.out hb3;have hbr:=HBR.out.bel hb3';clear q4;have q0:w3.cell? ⟨w.heap.size,0,none⟩=some (.bool true):=hbr.cell 0;have q2:w3.cell? ⟨w.heap.size,2,none⟩=some (.bool false):=hbr.cell 2;have q3:w3.cell? ⟨w.heap.size,3,none⟩=some (.int .i64 0):=hbr.cell 3;have q4:w3.cell? ⟨w.heap.size,4,none⟩=some (.slice bA bl bc):=hbr.cell 4;have q5:w3.cell? ⟨w.heap.size,5,none⟩=some (.slice wA 0 wc):=hbr.cell 5
  obtain⟨HB3',HOS,HBR⟩:=Zq3 hb3' hos hbr;clear hb3' hos hbr
  clear hb3;go_wp2_with fail;clear q0 q2 q3 q4 q5
  obtain⟨g,hg⟩:∃g,g=w3.heap.size:=⟨_,rfl⟩
  obtain⟨X,hX⟩:∃X,X=w3.alloc (.cells #[.bool true,.slice none 0 0,.bool false,.int .i64 0,.slice none 0 0,.slice none 0 0] 42):=⟨_,rfl⟩
  have hbX:Below w3.heap.size w3 X:=by rw[hX];exact bel_alloc _ _
  have hoX:Blk X g 42 #[.bool true,.slice none 0 0,.bool false,.int .i64 0,.slice none 0 0,.slice none 0 0]:=by rw[hX];exact blk_new hg.symm _ _
  rw[← hX,← hg];have hoff:Off [g] oA bl:=fun h0 ad ea hm=>by have:=HOS.out.blk_lt h0 ea;simp at hm;omega
  have hg1:W0.heap.size≤g:=by rw[hg];exact HB3'.out.size
  clear hX;have hb0X:=bel_trans HB3'.out hbX;have hos2:=HOS.out.ext hbX;have hgX:g<X.heap.size:=hoX.lt;have hbrX:=HBR.out.bel hbX;have hbzX:=HBZ.out.bel hb0X;have hbwX:=bel_trans BW.out hb0X;have hh63:∀x∈r.head,-9223372036854775807≤x:=fun x hx=>by have:=HP.out.head x hx;omega
  have hb63:∀x∈r.body,-9223372036854775807≤x:=fun x hx=>lit_low (HP.out.body x hx) hn1;have hhX0:=HR.out.head;have hhX:=HR.out.head.ext hbwX;have hs4:=HSZ.out
  obtain⟨HOX,HB0X,HOS2,HOFF,HBRX,HBZX,HBWX,HH63,HB63,HHX0,HHX⟩:=Zq11 hoX hb0X hos2 hoff hbrX hbzX hbwX hh63 hb63 hhX0 hhX;clear hoX hb0X hos2 hoff hbrX hbzX hbwX hh63 hb63 hhX0 hhX
  clear hbX hg HOS;refine wp_region_inv (fun listed a' w'=>∃(b0 b1 b2 b3 b4 b5 b6 b7 b8 b9 b10 b11:Bool) (u116 u117 u118 u119 u120 u121 u122 u123 u124 u125 u126:Value),listed=#[b0,b1,b2,b3,b4,b5,b6,b7,b8,b9,b10,b11]∧a'={ tmps:=#[.agg #[.bool true,.slice hA hl hc,.bool false,.int .i64 0,.slice bA bl bc,.slice wA 0 wc],.int .i64 n,.pointer (some ⟨w.heap.size,0,none⟩),.pointer (some ⟨w.heap.size+1,0,none⟩),.pointer (some ⟨w.heap.size+1+1,0,none⟩),.int .i64 0,.pointer (some ⟨w.heap.size+1+1+1,0,none⟩),.slice oA bl oc,undef,undef,undef,.pointer (some ⟨g,0,none⟩),.agg #[.bool false,.slice none 0 0,.bool false,.int .i64 0,.slice none 0 0,.slice none 0 0],.bool (decide (n<0) || decide (4000<n)),.int .i64 n,.bool (decide (n<0)),.bool (decide (n<0)),.int .i64 n,.bool (decide (4000<n)),.bool (decide (n<0) || decide (4000<n)),undef,.bool false,.pointer (some ⟨w.heap.size,0,none⟩),.bool true,.bool true,.pointer (some ⟨w.heap.size,1,none⟩),.slice hA hl hc,.int .i64 (hl:Int),.bool false,.bool false,.bool false,.pointer (some ⟨w.heap.size,1,none⟩),.slice hA hl hc,Value.func (Fn.func 111) #[] #[.pointer (some ⟨w.heap.size+1,0,none⟩)],.bool false,.bool false,undef,.bool false,.pointer (some ⟨w.heap.size,4,none⟩),.slice bA bl bc,Value.func (Fn.func 112) #[] #[.pointer (some ⟨w.heap.size+1,0,none⟩)],.bool false,undef,.pointer (some ⟨w.heap.size,4,none⟩),.slice bA bl bc,.int .i64 (bl:Int),.slice oA bl oc,.pointer (some ⟨w.heap.size,2,none⟩),.bool false,undef,undef,undef,undef,undef,undef,undef,undef,undef,undef,undef,undef,undef,undef,undef,undef,undef,undef,undef,undef,undef,undef,.pointer (some ⟨w.heap.size,2,none⟩),.bool false,.bool false,undef,undef,undef,undef,undef,undef,undef,undef,undef,undef,undef,undef,undef,undef,undef,undef,undef,.bool false,.bool false,.pointer (some ⟨w.heap.size,2,none⟩),.bool false,.bool true,.bool true,.pointer (some ⟨w.heap.size,5,none⟩),.slice wA 0 wc,.int .i64 0,.bool false,.bool false,.pointer (some ⟨w.heap.size,3,none⟩),.int .i64 0,.bool false,.bool false,.bool false,.bool false,undef,.pointer (some ⟨w.heap.size,0,none⟩),.bool true,.pointer (some ⟨w.heap.size,2,none⟩),.bool false,.pointer (some ⟨w.heap.size,3,none⟩),.int .i64 0,.agg #[.bool true,.slice none 0 0,.bool false,.int .i64 0,.slice none 0 0,.slice none 0 0],u116,u117,u118,u119,u120,u121,u122,u123,u124,u125,u126,undef,undef,undef,undef,undef,undef,undef,undef,undef,undef,undef,undef,undef,undef],defers:=[] }∧NrmJ X w.heap.size g (.slice hA hl hc) hl r.head true false 0 w' b0 b1 b2 b3 b4 b5 b6 b7 b8 b9 b10 b11 u116 u117 u118 u119 u120 u121 u122 u123 u124 u125 u126) (by kernel_rfl) ?start ?step ?fin
  case start=>exact⟨false,false,false,false,false,false,false,false,false,false,false,false,_,_,_,_,_,_,_,_,_,_,_,rfl,rfl,NrmJ.start (Kept.refl _ _).drew HOX.out.drew⟩
  case step=>
   rintro listed a' w' i o ⟨b0,b1,b2,b3,b4,b5,b6,b7,b8,b9,b10,b11,u116,u117,u118,u119,u120,u121,u122,u123,u124,u125,u126,rfl,rfl,h⟩ ho hli hd K hK;have Zqx:=fun i h=>hd ⟨i,.data⟩ h rfl
   match i,ho,hli,hd with
   |0,ho,hli,hd=>obtain⟨rfl,rfl⟩:_∧b0=false:=Zqj ho hli;go_simp;exact hK _ _ ⟨_,_,_,_,_,_,_,_,_,_,_,_,_,_,_,_,_,_,_,_,_,_,_,rfl,rfl,{ h with f0:=fun _=>rfl }⟩
   |1,ho,hli,hd=>obtain⟨rfl,rfl⟩:_∧b1=false:=Zqj ho hli;obtain rfl:b0=true:=Zqx 0 (by simp);obtain rfl:=h.f0 rfl;have m0:w'.cell? ⟨w.heap.size,1,none⟩=some (.slice hA hl hc):=h.kept.cell (HBRX.out.cell 1) (by simp;omega);go_simp;exact hK _ _ ⟨_,_,_,_,_,_,_,_,_,_,_,_,_,_,_,_,_,_,_,_,_,_,_,rfl,rfl,{ h with f1:=fun _=>rfl,d6:=fun e=>⟨rfl,(h.d6 e).2⟩ }⟩
   |2,ho,hli,hd=>obtain⟨rfl,rfl⟩:_∧b2=false:=Zqj ho hli;go_simp;exact hK _ _ ⟨_,_,_,_,_,_,_,_,_,_,_,_,_,_,_,_,_,_,_,_,_,_,_,rfl,rfl,{ h with f2:=fun _=>rfl }⟩
   |3,ho,hli,hd=>obtain⟨rfl,rfl⟩:_∧b3=false:=Zqj ho hli;obtain rfl:b2=true:=Zqx 2 (by simp);obtain rfl:=h.f2 rfl;have m0:w'.cell? ⟨w.heap.size,1,none⟩=some (.slice hA hl hc):=h.kept.cell (HBRX.out.cell 1) (by simp;omega);go_simp;exact hK _ _ ⟨_,_,_,_,_,_,_,_,_,_,_,_,_,_,_,_,_,_,_,_,_,_,_,rfl,rfl,{ h with f3:=fun _=>rfl }⟩
   |4,ho,hli,hd=>obtain⟨rfl,rfl⟩:_∧b4=false:=Zqj ho hli;obtain rfl:b3=true:=Zqx 3 (by simp);obtain rfl:=h.f3 rfl;go_simp;exact hK _ _ ⟨_,_,_,_,_,_,_,_,_,_,_,_,_,_,_,_,_,_,_,_,_,_,_,rfl,rfl,{ h with f4:=fun _=>rfl }⟩
   |5,ho,hli,hd=>
    obtain⟨rfl,rfl⟩:_∧b5=false:=Zqj ho hli;obtain rfl:b4=true:=Zqx 4 (by simp);obtain rfl:=h.f4 rfl;go_simp
    refine(ones_any hl w' (by omega)).mono ?_
    rintro e v ⟨A,c,rfl,hso,hbo⟩;exact hK _ _ ⟨_,_,_,_,_,_,_,_,_,_,_,_,_,_,_,_,_,_,_,_,_,_,_,rfl,rfl,h.op5 hbo hso⟩
   |6,ho,hli,hd=>
    obtain⟨rfl,rfl⟩:_∧b6=false:=Zqj ho hli;obtain rfl:b1=true:=Zqx 1 (by simp);obtain rfl:b5=true:=Zqx 5 (by simp);obtain rfl:=h.f1 rfl
    obtain⟨oA1,oc1,rfl,hso⟩:=h.f5 rfl rfl
    go_simp
    refine(sorted_any hA hl hc oA1 hl oc1 r.head _ w' (HHX.out.keptM h.kept (off_before HHX0.out (fun q hq=>by simp at hq;omega))) hso rfl hl5 HH63.out (fun y hy=>by rw[List.eq_of_mem_replicate hy];omega) (by rw[ones_sum];omega)).mono ?_
    rintro e v ⟨A,l,c,D,k,q,rfl,hso1,-,hfo1,-,hbo⟩;exact hK _ _ ⟨_,_,_,_,_,_,_,_,_,_,_,_,_,_,_,_,_,_,_,_,_,_,_,rfl,rfl,h.op6 hbo hso1 hfo1⟩
   |7,ho,hli,hd=>obtain⟨rfl,rfl⟩:_∧b7=false:=Zqj ho hli;obtain rfl:b6=true:=Zqx 6 (by simp);go_simp;exact hK _ _ ⟨_,_,_,_,_,_,_,_,_,_,_,_,_,_,_,_,_,_,_,_,_,_,_,rfl,rfl,h.op7⟩
   |8,ho,hli,hd=>
    obtain⟨rfl,rfl⟩:_∧b8=false:=Zqj ho hli;obtain rfl:b7=true:=Zqx 7 (by simp)
    obtain⟨A,l,c,D,k,q,rfl,h'⟩:=h.op8
    go_simp;exact hK _ _ ⟨_,_,_,_,_,_,_,_,_,_,_,_,_,_,_,_,_,_,_,_,_,_,_,rfl,rfl,h'⟩
   |9,ho,hli,hd=>
    obtain⟨rfl,rfl⟩:_∧b9=false:=Zqj ho hli;obtain rfl:b7=true:=Zqx 7 (by simp)
    obtain⟨A,l,c,D,k,q,rfl⟩:=h.tup
    go_simp;exact hK _ _ ⟨_,_,_,_,_,_,_,_,_,_,_,_,_,_,_,_,_,_,_,_,_,_,_,rfl,rfl,{ h with d9:=fun _=>rfl }⟩
   |10,ho,hli,hd=>obtain⟨rfl,rfl⟩:_∧b10=false:=Zqj ho hli;go_simp;exact hK _ _ ⟨_,_,_,_,_,_,_,_,_,_,_,_,_,_,_,_,_,_,_,_,_,_,_,rfl,rfl,{ h with f10:=fun _=>rfl,d11:=fun e=>⟨(h.d11 e).1,rfl⟩ }⟩
   |11,ho,hli,hd=>
    obtain⟨rfl,rfl⟩:_∧b11=false:=Zqj ho hli;obtain rfl:b8=true:=Zqx 8 (by simp);obtain rfl:b10=true:=Zqx 10 (by simp);obtain rfl:=h.f10 rfl
    obtain⟨A,l,c,rfl,m1,m2,h'⟩:=h.op11 hgX
    go_simp;exact hK _ _ ⟨_,_,_,_,_,_,_,_,_,_,_,_,_,_,_,_,_,_,_,_,_,_,_,rfl,rfl,h'⟩
   |i+12,ho,hli,hd=>simp at ho
  case fin=>
   rintro listed a' w' ⟨b0,b1,b2,b3,b4,b5,b6,b7,b8,b9,b10,b11,u116,u117,u118,u119,u120,u121,u122,u123,u124,u125,u126,rfl,rfl,h⟩ hr;obtain rfl:b0=true:=Zqn hr 0 rfl;obtain rfl:b1=true:=Zqn hr 1 rfl;obtain rfl:b2=true:=Zqn hr 2 rfl;obtain rfl:b3=true:=Zqn hr 3 rfl;obtain rfl:b4=true:=Zqn hr 4 rfl;obtain rfl:b5=true:=Zqn hr 5 rfl;obtain rfl:b6=true:=Zqn hr 6 rfl;obtain rfl:b7=true:=Zqn hr 7 rfl;obtain rfl:b8=true:=Zqn hr 8 rfl;obtain rfl:b9=true:=Zqn hr 9 rfl;obtain rfl:b10=true:=Zqn hr 10 rfl;obtain rfl:b11=true:=Zqn hr 11 rfl;clear hr;have hkp:=h.kept
   obtain⟨A1,l1,c1,D1,k1,q1,-,hs1,hf1,-,-,hgb0⟩:=h.row rfl
   have hgb:=hgb0 rfl;clear h hgb0;have hbw:=Kept.below HBWX.out hkp (by omega) (fun z hz=>by simp at hz;omega);have hszk:=hkp.size;have hbrk:=hkp.blk HBRX.out (by simp;omega);have q4:w'.cell? ⟨w.heap.size,4,none⟩=some (.slice bA bl bc):=hbrk.cell 4;have cY:=sorted_any bA bl bc oA bl oc r.body (List.replicate bl 1) w' (HR.out.body.ext hbw) (HOS2.out.keptM hkp HOFF.out) rfl bl5 HB63.out (fun y hy=>by rw[List.eq_of_mem_replicate hy];omega) (by rw[ones_sum];omega);have hzk:=hkp.blk HBZX.out (by simp;omega)
   obtain⟨HKP,HS1,HF1,HGB,HBW,HBRK,CY,HZK⟩:=Zq8 hkp hs1 hf1 hgb hbw hbrk cY hzk;clear hkp hs1 hf1 hgb hbw hbrk cY hzk
   go_wp2_with fail;go_fit CY.out;rintro e w5 ⟨A2,l2,c2,D2,k2,p2,rfl,hs2,ht2,hf2,hu2,hb5⟩;clear q4;have hg5:=HGB.out.bel hb5;have hg6:=hg5.set_ 4 (.slice A2 l2 c2);have hg7:=hg6.set_ 5 (.slice D2 k2 p2);have hg8:=hg7.set_ 5 (.slice none 0 0);have e6:=hg7.cell 5;have f6:=hg7.frozen 5;have e4:=hg5.cell 4;have f4:=hg5.frozen 4;have e5:=hg6.cell 5;have f5:=hg6.frozen 5;have kA:Kept [g] w5 (w5.setCell ⟨g,4,none⟩ (.slice A2 l2 c2)):=(Kept.refl _ _).set (.inl (by simp)) _;have kB:Kept [g] w5 ((w5.setCell ⟨g,4,none⟩ (.slice A2 l2 c2)).setCell ⟨g,5,none⟩ (.slice D2 k2 p2)):=kA.set (.inl (by simp)) _;have kC:Kept [g] w5 (((w5.setCell ⟨g,4,none⟩ (.slice A2 l2 c2)).setCell ⟨g,5,none⟩ (.slice D2 k2 p2)).setCell ⟨g,5,none⟩ (.slice none 0 0)):=kB.set (.inl (by simp)) _;have hbr5:=HBRK.out.bel hb5;have hbr7:=kB.blk hbr5 (by simp;omega);have r2:((w5.setCell ⟨g,4,none⟩ (.slice A2 l2 c2)).setCell ⟨g,5,none⟩ (.slice D2 k2 p2)).cell? ⟨w.heap.size,2,none⟩=some (.bool false):=hbr7.cell 2;have hz8:=kC.blk (HZK.out.bel hb5) (by simp;omega);have hgl:g<(((w5.setCell ⟨g,4,none⟩ (.slice A2 l2 c2)).setCell ⟨g,5,none⟩ (.slice D2 k2 p2)).setCell ⟨g,5,none⟩ (.slice none 0 0)).heap.size:=hg8.lt;have kD:Kept [g,w.heap.size+1+1] w5 ((((w5.setCell ⟨g,4,none⟩ (.slice A2 l2 c2)).setCell ⟨g,5,none⟩ (.slice D2 k2 p2)).setCell ⟨g,5,none⟩ (.slice none 0 0)).setRow (w.heap.size+1+1) #[.bool true,.slice A1 l1 c1,.bool false,.int .i64 0,.slice A2 l2 c2,.slice none 0 0]):=(kC.more (by simp)).row (.inl (by simp)) _;have hbf:=Kept.below (bel_trans HBW.out hb5) kD (by have:=HBW.out.size;have:=hb5.size;omega) (fun z hz=>by simp at hz;omega);have fz:Blk ((((w5.setCell ⟨g,4,none⟩ (.slice A2 l2 c2)).setCell ⟨g,5,none⟩ (.slice D2 k2 p2)).setCell ⟨g,5,none⟩ (.slice none 0 0)).setRow (w.heap.size+1+1) #[.bool true,.slice A1 l1 c1,.bool false,.int .i64 0,.slice A2 l2 c2,.slice none 0 0]) (w.heap.size+1+1) 42 #[.bool true,.slice A1 l1 c1,.bool false,.int .i64 0,.slice A2 l2 c2,.slice none 0 0]:=hz8.row _;have hw5:=hb5.size;have hsh:=(HS1.out.ext hb5).keptM kD (fun h0 ad ea hm=>by have:=HF1.out h0 ad ea;simp at hm;omega);have hsb:=hs2.keptM kD (fun h0 ad ea hm=>by have:=hf2 h0 ad ea;simp at hm;omega);have hsw:=ht2.keptM kD (fun h0 ad ea hm=>by have:=hu2 h0 ad ea;simp at hm;omega);have hfh:=HF1.out.mono (show w.heap.size≤X.heap.size by omega);have hfb:=hf2.mono (show w.heap.size≤w'.heap.size by omega);have hfw:=hu2.mono (show w.heap.size≤w'.heap.size by omega)
   obtain⟨HS2,HT2,HF2,HU2,HB5,HG5,HG6,HG7,HG8,KA,KB,KC⟩:=Zq12 hs2 ht2 hf2 hu2 hb5 hg5 hg6 hg7 hg8 kA kB kC;clear hs2 ht2 hf2 hu2 hb5 hg5 hg6 hg7 hg8 kA kB kC
   obtain⟨HBR5,HBR7,HZ8,KD,HBF,FZ,HSH,HSB,HSW,HFH,HFB,HFW⟩:=Zq12 hbr5 hbr7 hz8 kD hbf fz hsh hsb hsw hfh hfb hfw;clear hbr5 hbr7 hz8 kD hbf fz hsh hsb hsw hfh hfb hfw
   go_wp2_with (first
    | (refine wpList_load_row (by rfl) 42 _ (by rfl) g (by rfl) 42 #[.bool true,.slice A1 l1 c1,.bool false,.int .i64 0,.slice A2 l2 c2,.slice none 0 0] (0,0) _ HG8.out Tryz.underlying42 rfl info_rule ?_)
    | (refine wpList_store_row (by rfl) 42 _ _ (by rfl) (w.heap.size+1+1) #[.bool true,.slice A1 l1 c1,.bool false,.int .i64 0,.slice A2 l2 c2,.slice none 0 0] (by rfl) (by rfl) 42 _ HZ8.out info_rule (by rfl) (by simp[Value.oneCell']) ?_))
   refine bodyPost_ret (results_row_tmp rfl _ _ (w.heap.size+1+1) 42 #[.bool true,.slice A1 l1 c1,.bool false,.int .i64 0,.slice A2 l2 c2,.slice none 0 0] _ (.int .i64 0) rfl rfl FZ.out Tryz.underlying42 rfl info_rule) rfl ?_;rw[HNR.out]
   exact⟨A1,l1,c1,A2,l2,c2,none,0,0,rfl,⟨HSH.out,(show I64 (0:Int) from⟨by decide,by decide⟩),HSB.out,SlIs.nil _ _⟩,HFH.out,HFB.out,Frs.nil _ _,HBF.out⟩
 |false=>
  clear hc0;go_wp2_with fail;rw[← hW0];clear hW0 n0;go_fit (CCH.out W0 (Below.refl _ _));rintro e w1 ⟨rfl,hb1⟩;have q4:w1.cell? ⟨w.heap.size,4,none⟩=some (.slice bA bl bc):=(HBR.out.bel hb1).cell 4;have HB1:=Zq1 hb1;clear hb1;go_wp2_with fail;go_fit (CCB.out w1 HB1.out);rintro e w2 ⟨rfl,hb2⟩;have hb2':=bel_trans HB1.out hb2;clear q4;have q4:w2.cell? ⟨w.heap.size,4,none⟩=some (.slice bA bl bc):=(HBR.out.bel hb2').cell 4;have HB2':=Zq1 hb2';clear hb2';clear hb2;go_wp2_with fail;go_fit (ones_any bl w2 (by omega));rintro e w3 ⟨oA,oc,rfl,hos,hb3⟩;have hb3':=bel_trans HB2'.out hb3;have hbr:=HBR.out.bel hb3';clear q4;have q0:w3.cell? ⟨w.heap.size,0,none⟩=some (.bool false):=hbr.cell 0;have q2:w3.cell? ⟨w.heap.size,2,none⟩=some (.bool false):=hbr.cell 2;have q3:w3.cell? ⟨w.heap.size,3,none⟩=some (.int .i64 0):=hbr.cell 3;have q4:w3.cell? ⟨w.heap.size,4,none⟩=some (.slice bA bl bc):=hbr.cell 4;have q5:w3.cell? ⟨w.heap.size,5,none⟩=some (.slice wA 0 wc):=hbr.cell 5
  obtain⟨HB3',HOS,HBR⟩:=Zq3 hb3' hos hbr;clear hb3' hos hbr
  clear hb3;go_wp2_with fail;clear q0 q2 q3 q4 q5
  obtain⟨g,hg⟩:∃g,g=w3.heap.size:=⟨_,rfl⟩
  obtain⟨X,hX⟩:∃X,X=w3.alloc (.cells #[.bool false,.slice none 0 0,.bool false,.int .i64 0,.slice none 0 0,.slice none 0 0] 42):=⟨_,rfl⟩
  have hbX:Below w3.heap.size w3 X:=by rw[hX];exact bel_alloc _ _
  have hoX:Blk X g 42 #[.bool false,.slice none 0 0,.bool false,.int .i64 0,.slice none 0 0,.slice none 0 0]:=by rw[hX];exact blk_new hg.symm _ _
  rw[← hX,← hg];have hoff:Off [g] oA bl:=fun h0 ad ea hm=>by have:=HOS.out.blk_lt h0 ea;simp at hm;omega
  have hg1:W0.heap.size≤g:=by rw[hg];exact HB3'.out.size
  clear hX;have hb0X:=bel_trans HB3'.out hbX;have hos2:=HOS.out.ext hbX;have hgX:g<X.heap.size:=hoX.lt;have hbrX:=HBR.out.bel hbX;have hbzX:=HBZ.out.bel hb0X;have hbwX:=bel_trans BW.out hb0X;have hh63:∀x∈r.head,-9223372036854775807≤x:=fun x hx=>by have:=HP.out.head x hx;omega
  have hb63:∀x∈r.body,-9223372036854775807≤x:=fun x hx=>lit_low (HP.out.body x hx) hn1;have hhX0:=HR.out.head;have hhX:=HR.out.head.ext hbwX;have hs4:=HSZ.out
  obtain⟨HOX,HB0X,HOS2,HOFF,HBRX,HBZX,HBWX,HH63,HB63,HHX0,HHX⟩:=Zq11 hoX hb0X hos2 hoff hbrX hbzX hbwX hh63 hb63 hhX0 hhX;clear hoX hb0X hos2 hoff hbrX hbzX hbwX hh63 hb63 hhX0 hhX
  clear hbX hg HOS;refine wp_region_inv (fun listed a' w'=>∃(b0 b1 b2 b3 b4 b5 b6 b7 b8 b9 b10 b11:Bool) (u116 u117 u118 u119 u120 u121 u122 u123 u124 u125 u126:Value),listed=#[b0,b1,b2,b3,b4,b5,b6,b7,b8,b9,b10,b11]∧a'={ tmps:=#[.agg #[.bool false,.slice hA hl hc,.bool false,.int .i64 0,.slice bA bl bc,.slice wA 0 wc],.int .i64 n,.pointer (some ⟨w.heap.size,0,none⟩),.pointer (some ⟨w.heap.size+1,0,none⟩),.pointer (some ⟨w.heap.size+1+1,0,none⟩),.int .i64 0,.pointer (some ⟨w.heap.size+1+1+1,0,none⟩),.slice oA bl oc,undef,undef,undef,.pointer (some ⟨g,0,none⟩),.agg #[.bool false,.slice none 0 0,.bool false,.int .i64 0,.slice none 0 0,.slice none 0 0],.bool (decide (n<0) || decide (4000<n)),.int .i64 n,.bool (decide (n<0)),.bool (decide (n<0)),.int .i64 n,.bool (decide (4000<n)),.bool (decide (n<0) || decide (4000<n)),undef,.bool false,.pointer (some ⟨w.heap.size,0,none⟩),.bool false,.bool false,undef,undef,undef,undef,.bool false,.bool false,.pointer (some ⟨w.heap.size,1,none⟩),.slice hA hl hc,Value.func (Fn.func 111) #[] #[.pointer (some ⟨w.heap.size+1,0,none⟩)],.bool false,.bool false,undef,.bool false,.pointer (some ⟨w.heap.size,4,none⟩),.slice bA bl bc,Value.func (Fn.func 112) #[] #[.pointer (some ⟨w.heap.size+1,0,none⟩)],.bool false,undef,.pointer (some ⟨w.heap.size,4,none⟩),.slice bA bl bc,.int .i64 (bl:Int),.slice oA bl oc,.pointer (some ⟨w.heap.size,2,none⟩),.bool false,undef,undef,undef,undef,undef,undef,undef,undef,undef,undef,undef,undef,undef,undef,undef,undef,undef,undef,undef,undef,undef,undef,.pointer (some ⟨w.heap.size,2,none⟩),.bool false,.bool false,undef,undef,undef,undef,undef,undef,undef,undef,undef,undef,undef,undef,undef,undef,undef,undef,undef,.bool false,.bool false,.pointer (some ⟨w.heap.size,2,none⟩),.bool false,.bool true,.bool true,.pointer (some ⟨w.heap.size,5,none⟩),.slice wA 0 wc,.int .i64 0,.bool false,.bool false,.pointer (some ⟨w.heap.size,3,none⟩),.int .i64 0,.bool false,.bool false,.bool false,.bool false,undef,.pointer (some ⟨w.heap.size,0,none⟩),.bool false,.pointer (some ⟨w.heap.size,2,none⟩),.bool false,.pointer (some ⟨w.heap.size,3,none⟩),.int .i64 0,.agg #[.bool false,.slice none 0 0,.bool false,.int .i64 0,.slice none 0 0,.slice none 0 0],u116,u117,u118,u119,u120,u121,u122,u123,u124,u125,u126,undef,undef,undef,undef,undef,undef,undef,undef,undef,undef,undef,undef,undef,undef],defers:=[] }∧NrmJ X w.heap.size g (.slice hA hl hc) hl r.head false false 0 w' b0 b1 b2 b3 b4 b5 b6 b7 b8 b9 b10 b11 u116 u117 u118 u119 u120 u121 u122 u123 u124 u125 u126) (by kernel_rfl) ?start ?step ?fin
  case start=>exact⟨false,false,false,false,false,false,false,false,false,false,false,false,_,_,_,_,_,_,_,_,_,_,_,rfl,rfl,NrmJ.start (Kept.refl _ _).drew HOX.out.drew⟩
  case step=>
   rintro listed a' w' i o ⟨b0,b1,b2,b3,b4,b5,b6,b7,b8,b9,b10,b11,u116,u117,u118,u119,u120,u121,u122,u123,u124,u125,u126,rfl,rfl,h⟩ ho hli hd K hK;have Zqx:=fun i h=>hd ⟨i,.data⟩ h rfl
   match i,ho,hli,hd with
   |0,ho,hli,hd=>obtain⟨rfl,rfl⟩:_∧b0=false:=Zqj ho hli;go_simp;exact hK _ _ ⟨_,_,_,_,_,_,_,_,_,_,_,_,_,_,_,_,_,_,_,_,_,_,_,rfl,rfl,{ h with f0:=fun _=>rfl }⟩
   |1,ho,hli,hd=>obtain⟨rfl,rfl⟩:_∧b1=false:=Zqj ho hli;obtain rfl:b0=true:=Zqx 0 (by simp);obtain rfl:=h.f0 rfl;have m0:w'.cell? ⟨w.heap.size,1,none⟩=some (.slice hA hl hc):=h.kept.cell (HBRX.out.cell 1) (by simp;omega);go_simp;exact hK _ _ ⟨_,_,_,_,_,_,_,_,_,_,_,_,_,_,_,_,_,_,_,_,_,_,_,rfl,rfl,{ h with f1:=fun _=>rfl,d6:=fun e=>⟨rfl,(h.d6 e).2⟩ }⟩
   |2,ho,hli,hd=>obtain⟨rfl,rfl⟩:_∧b2=false:=Zqj ho hli;go_simp;exact hK _ _ ⟨_,_,_,_,_,_,_,_,_,_,_,_,_,_,_,_,_,_,_,_,_,_,_,rfl,rfl,{ h with f2:=fun _=>rfl }⟩
   |3,ho,hli,hd=>obtain⟨rfl,rfl⟩:_∧b3=false:=Zqj ho hli;obtain rfl:b2=true:=Zqx 2 (by simp);obtain rfl:=h.f2 rfl;have m0:w'.cell? ⟨w.heap.size,1,none⟩=some (.slice hA hl hc):=h.kept.cell (HBRX.out.cell 1) (by simp;omega);go_simp;exact hK _ _ ⟨_,_,_,_,_,_,_,_,_,_,_,_,_,_,_,_,_,_,_,_,_,_,_,rfl,rfl,{ h with f3:=fun _=>rfl }⟩
   |4,ho,hli,hd=>obtain⟨rfl,rfl⟩:_∧b4=false:=Zqj ho hli;obtain rfl:b3=true:=Zqx 3 (by simp);obtain rfl:=h.f3 rfl;go_simp;exact hK _ _ ⟨_,_,_,_,_,_,_,_,_,_,_,_,_,_,_,_,_,_,_,_,_,_,_,rfl,rfl,{ h with f4:=fun _=>rfl }⟩
   |5,ho,hli,hd=>
    obtain⟨rfl,rfl⟩:_∧b5=false:=Zqj ho hli;obtain rfl:b4=true:=Zqx 4 (by simp);obtain rfl:=h.f4 rfl;go_simp
    refine(ones_any hl w' (by omega)).mono ?_
    rintro e v ⟨A,c,rfl,hso,hbo⟩;exact hK _ _ ⟨_,_,_,_,_,_,_,_,_,_,_,_,_,_,_,_,_,_,_,_,_,_,_,rfl,rfl,h.op5 hbo hso⟩
   |6,ho,hli,hd=>
    obtain⟨rfl,rfl⟩:_∧b6=false:=Zqj ho hli;obtain rfl:b1=true:=Zqx 1 (by simp);obtain rfl:b5=true:=Zqx 5 (by simp);obtain rfl:=h.f1 rfl
    obtain⟨oA1,oc1,rfl,hso⟩:=h.f5 rfl rfl
    go_simp
    refine(sorted_any hA hl hc oA1 hl oc1 r.head _ w' (HHX.out.keptM h.kept (off_before HHX0.out (fun q hq=>by simp at hq;omega))) hso rfl hl5 HH63.out (fun y hy=>by rw[List.eq_of_mem_replicate hy];omega) (by rw[ones_sum];omega)).mono ?_
    rintro e v ⟨A,l,c,D,k,q,rfl,hso1,-,hfo1,-,hbo⟩;exact hK _ _ ⟨_,_,_,_,_,_,_,_,_,_,_,_,_,_,_,_,_,_,_,_,_,_,_,rfl,rfl,h.op6 hbo hso1 hfo1⟩
   |7,ho,hli,hd=>obtain⟨rfl,rfl⟩:_∧b7=false:=Zqj ho hli;obtain rfl:b6=true:=Zqx 6 (by simp);go_simp;exact hK _ _ ⟨_,_,_,_,_,_,_,_,_,_,_,_,_,_,_,_,_,_,_,_,_,_,_,rfl,rfl,h.op7⟩
   |8,ho,hli,hd=>
    obtain⟨rfl,rfl⟩:_∧b8=false:=Zqj ho hli;obtain rfl:b7=true:=Zqx 7 (by simp)
    obtain⟨A,l,c,D,k,q,rfl,h'⟩:=h.op8
    go_simp;exact hK _ _ ⟨_,_,_,_,_,_,_,_,_,_,_,_,_,_,_,_,_,_,_,_,_,_,_,rfl,rfl,h'⟩
   |9,ho,hli,hd=>
    obtain⟨rfl,rfl⟩:_∧b9=false:=Zqj ho hli;obtain rfl:b7=true:=Zqx 7 (by simp)
    obtain⟨A,l,c,D,k,q,rfl⟩:=h.tup
    go_simp;exact hK _ _ ⟨_,_,_,_,_,_,_,_,_,_,_,_,_,_,_,_,_,_,_,_,_,_,_,rfl,rfl,{ h with d9:=fun _=>rfl }⟩
   |10,ho,hli,hd=>obtain⟨rfl,rfl⟩:_∧b10=false:=Zqj ho hli;go_simp;exact hK _ _ ⟨_,_,_,_,_,_,_,_,_,_,_,_,_,_,_,_,_,_,_,_,_,_,_,rfl,rfl,{ h with f10:=fun _=>rfl,d11:=fun e=>⟨(h.d11 e).1,rfl⟩ }⟩
   |11,ho,hli,hd=>
    obtain⟨rfl,rfl⟩:_∧b11=false:=Zqj ho hli;obtain rfl:b8=true:=Zqx 8 (by simp);obtain rfl:b10=true:=Zqx 10 (by simp);obtain rfl:=h.f10 rfl
    obtain⟨A,l,c,rfl,m1,m2,h'⟩:=h.op11 hgX
    go_simp;exact hK _ _ ⟨_,_,_,_,_,_,_,_,_,_,_,_,_,_,_,_,_,_,_,_,_,_,_,rfl,rfl,h'⟩
   |i+12,ho,hli,hd=>simp at ho
  case fin=>
   rintro listed a' w' ⟨b0,b1,b2,b3,b4,b5,b6,b7,b8,b9,b10,b11,u116,u117,u118,u119,u120,u121,u122,u123,u124,u125,u126,rfl,rfl,h⟩ hr;obtain rfl:b0=true:=Zqn hr 0 rfl;obtain rfl:b1=true:=Zqn hr 1 rfl;obtain rfl:b2=true:=Zqn hr 2 rfl;obtain rfl:b3=true:=Zqn hr 3 rfl;obtain rfl:b4=true:=Zqn hr 4 rfl;obtain rfl:b5=true:=Zqn hr 5 rfl;obtain rfl:b6=true:=Zqn hr 6 rfl;obtain rfl:b7=true:=Zqn hr 7 rfl;obtain rfl:b8=true:=Zqn hr 8 rfl;obtain rfl:b9=true:=Zqn hr 9 rfl;obtain rfl:b10=true:=Zqn hr 10 rfl;obtain rfl:b11=true:=Zqn hr 11 rfl;clear hr;have hkp:=h.kept
   obtain⟨A1,l1,c1,D1,k1,q1,-,hs1,hf1,-,-,hgb0⟩:=h.row rfl
   have hgb:=hgb0 rfl;clear h hgb0;have hbw:=Kept.below HBWX.out hkp (by omega) (fun z hz=>by simp at hz;omega);have hszk:=hkp.size;have hbrk:=hkp.blk HBRX.out (by simp;omega);have q4:w'.cell? ⟨w.heap.size,4,none⟩=some (.slice bA bl bc):=hbrk.cell 4;have cY:=sorted_any bA bl bc oA bl oc r.body (List.replicate bl 1) w' (HR.out.body.ext hbw) (HOS2.out.keptM hkp HOFF.out) rfl bl5 HB63.out (fun y hy=>by rw[List.eq_of_mem_replicate hy];omega) (by rw[ones_sum];omega);have hzk:=hkp.blk HBZX.out (by simp;omega)
   obtain⟨HKP,HS1,HF1,HGB,HBW,HBRK,CY,HZK⟩:=Zq8 hkp hs1 hf1 hgb hbw hbrk cY hzk;clear hkp hs1 hf1 hgb hbw hbrk cY hzk
   go_wp2_with fail;go_fit CY.out;rintro e w5 ⟨A2,l2,c2,D2,k2,p2,rfl,hs2,ht2,hf2,hu2,hb5⟩;clear q4;have hg5:=HGB.out.bel hb5;have hg6:=hg5.set_ 4 (.slice A2 l2 c2);have hg7:=hg6.set_ 5 (.slice D2 k2 p2);have hg8:=hg7.set_ 5 (.slice none 0 0);have e6:=hg7.cell 5;have f6:=hg7.frozen 5;have e4:=hg5.cell 4;have f4:=hg5.frozen 4;have e5:=hg6.cell 5;have f5:=hg6.frozen 5;have kA:Kept [g] w5 (w5.setCell ⟨g,4,none⟩ (.slice A2 l2 c2)):=(Kept.refl _ _).set (.inl (by simp)) _;have kB:Kept [g] w5 ((w5.setCell ⟨g,4,none⟩ (.slice A2 l2 c2)).setCell ⟨g,5,none⟩ (.slice D2 k2 p2)):=kA.set (.inl (by simp)) _;have kC:Kept [g] w5 (((w5.setCell ⟨g,4,none⟩ (.slice A2 l2 c2)).setCell ⟨g,5,none⟩ (.slice D2 k2 p2)).setCell ⟨g,5,none⟩ (.slice none 0 0)):=kB.set (.inl (by simp)) _;have hbr5:=HBRK.out.bel hb5;have hbr7:=kB.blk hbr5 (by simp;omega);have r2:((w5.setCell ⟨g,4,none⟩ (.slice A2 l2 c2)).setCell ⟨g,5,none⟩ (.slice D2 k2 p2)).cell? ⟨w.heap.size,2,none⟩=some (.bool false):=hbr7.cell 2;have hz8:=kC.blk (HZK.out.bel hb5) (by simp;omega);have hgl:g<(((w5.setCell ⟨g,4,none⟩ (.slice A2 l2 c2)).setCell ⟨g,5,none⟩ (.slice D2 k2 p2)).setCell ⟨g,5,none⟩ (.slice none 0 0)).heap.size:=hg8.lt;have kD:Kept [g,w.heap.size+1+1] w5 ((((w5.setCell ⟨g,4,none⟩ (.slice A2 l2 c2)).setCell ⟨g,5,none⟩ (.slice D2 k2 p2)).setCell ⟨g,5,none⟩ (.slice none 0 0)).setRow (w.heap.size+1+1) #[.bool false,.slice A1 l1 c1,.bool false,.int .i64 0,.slice A2 l2 c2,.slice none 0 0]):=(kC.more (by simp)).row (.inl (by simp)) _;have hbf:=Kept.below (bel_trans HBW.out hb5) kD (by have:=HBW.out.size;have:=hb5.size;omega) (fun z hz=>by simp at hz;omega);have fz:Blk ((((w5.setCell ⟨g,4,none⟩ (.slice A2 l2 c2)).setCell ⟨g,5,none⟩ (.slice D2 k2 p2)).setCell ⟨g,5,none⟩ (.slice none 0 0)).setRow (w.heap.size+1+1) #[.bool false,.slice A1 l1 c1,.bool false,.int .i64 0,.slice A2 l2 c2,.slice none 0 0]) (w.heap.size+1+1) 42 #[.bool false,.slice A1 l1 c1,.bool false,.int .i64 0,.slice A2 l2 c2,.slice none 0 0]:=hz8.row _;have hw5:=hb5.size;have hsh:=(HS1.out.ext hb5).keptM kD (fun h0 ad ea hm=>by have:=HF1.out h0 ad ea;simp at hm;omega);have hsb:=hs2.keptM kD (fun h0 ad ea hm=>by have:=hf2 h0 ad ea;simp at hm;omega);have hsw:=ht2.keptM kD (fun h0 ad ea hm=>by have:=hu2 h0 ad ea;simp at hm;omega);have hfh:=HF1.out.mono (show w.heap.size≤X.heap.size by omega);have hfb:=hf2.mono (show w.heap.size≤w'.heap.size by omega);have hfw:=hu2.mono (show w.heap.size≤w'.heap.size by omega)
   obtain⟨HS2,HT2,HF2,HU2,HB5,HG5,HG6,HG7,HG8,KA,KB,KC⟩:=Zq12 hs2 ht2 hf2 hu2 hb5 hg5 hg6 hg7 hg8 kA kB kC;clear hs2 ht2 hf2 hu2 hb5 hg5 hg6 hg7 hg8 kA kB kC
   obtain⟨HBR5,HBR7,HZ8,KD,HBF,FZ,HSH,HSB,HSW,HFH,HFB,HFW⟩:=Zq12 hbr5 hbr7 hz8 kD hbf fz hsh hsb hsw hfh hfb hfw;clear hbr5 hbr7 hz8 kD hbf fz hsh hsb hsw hfh hfb hfw
   go_wp2_with (first
    | (refine wpList_load_row (by rfl) 42 _ (by rfl) g (by rfl) 42 #[.bool false,.slice A1 l1 c1,.bool false,.int .i64 0,.slice A2 l2 c2,.slice none 0 0] (0,0) _ HG8.out Tryz.underlying42 rfl info_rule ?_)
    | (refine wpList_store_row (by rfl) 42 _ _ (by rfl) (w.heap.size+1+1) #[.bool false,.slice A1 l1 c1,.bool false,.int .i64 0,.slice A2 l2 c2,.slice none 0 0] (by rfl) (by rfl) 42 _ HZ8.out info_rule (by rfl) (by simp[Value.oneCell']) ?_))
   refine bodyPost_ret (results_row_tmp rfl _ _ (w.heap.size+1+1) 42 #[.bool false,.slice A1 l1 c1,.bool false,.int .i64 0,.slice A2 l2 c2,.slice none 0 0] _ (.int .i64 0) rfl rfl FZ.out Tryz.underlying42 rfl info_rule) rfl ?_;rw[HNR.out]
   exact⟨A1,l1,c1,A2,l2,c2,none,0,0,rfl,⟨HSH.out,(show I64 (0:Int) from⟨by decide,by decide⟩),HSB.out,SlIs.nil _ _⟩,HFH.out,HFB.out,Frs.nil _ _,HBF.out⟩
open Go.RowKit Go.Shelf
theorem normS_any (r:GRule)(hA:OA)(hl hc:Nat)(bA:OA)(bl bc:Nat)(wA:OA)(wl wc:Nat)(n:Int)(ch:Bool)(w:World)(hr:RuleIn w r hA hl hc bA bl bc wA wl wc)(hp:PreRule r n)(hs:r.sum=true)(hch:r.choice=ch):
  Calls Tryz.prog 69 #[.agg #[.bool r.choice,.slice hA hl hc,.bool r.sum,.int .i64 r.bound,.slice bA bl bc,.slice wA wl wc],.int .i64 n] w fun e w'=>∃(hA':OA) (hl' hc':Nat) (bA':OA) (bl' bc':Nat) (wA':OA) (wl' wc':Nat),e=.returned (.tuple #[ruleV (normR r) (.slice hA' hl' hc') (.slice bA' bl' bc') (.slice wA' wl' wc'),.int .i64 0]) ∧
   RuleIn w' (normR r) hA' hl' hc' bA' bl' bc' wA' wl' wc'∧Frs w.heap.size hA' hl'∧Frs w.heap.size bA' bl'∧Frs w.heap.size wA' wl'∧Below w.heap.size w w':=by
 have hn0:=hp.n0;have hn1:=hp.n1;have hhc:=hr.head.cap;have hhm:=hr.head.max;have hbc:=hr.body.cap;have hbm:=hr.body.max;have hhl:=hr.head.len;have hbl:=hr.body.len;have hl5:hl≤100000:=by have:=hp.hl;omega
 have bl5:bl≤100000:=by have:=hp.bl;omega
 have hwl:=hp.wlen hs;rw[← hr.body.len,← hr.wt.len]at hwl;subst hwl;have hwc:=hr.wt.cap;have hwm:=hr.wt.max;have hw0:=wtGo_spec r.w 0 (by omega) (by omega) (hp.wt hs);have hbz0:=hp.b0 hs;have hbz1:=hp.b1 hs
 have hc0:ch=true→((hl:Int)==0)=false:=fun e=>by
  have h1:=hp.choice (by rw[hch,e])
  have:r.head.length≠0:=fun h=>h1 (List.eq_nil_of_length_eq_zero h)
  simp;omega
 have hW:Blk ((((w.alloc (.cells #[.bool ch,.slice hA hl hc,.bool true,.int .i64 r.bound,.slice bA wl bc,.slice wA wl wc] 42)).alloc (.cells #[.int .i64 n] 3)).alloc (.cells #[.bool false,.slice none 0 0,.bool false,.int .i64 0,.slice none 0 0,.slice none 0 0] 42)).alloc (.cells #[.bool false,.slice none 0 0,.bool false,.int .i64 0,.slice none 0 0,.slice none 0 0] 42)) w.heap.size 42 #[.bool ch,.slice hA hl hc,.bool true,.int .i64 r.bound,.slice bA wl bc,.slice wA wl wc]∧Blk ((((w.alloc (.cells #[.bool ch,.slice hA hl hc,.bool true,.int .i64 r.bound,.slice bA wl bc,.slice wA wl wc] 42)).alloc (.cells #[.int .i64 n] 3)).alloc (.cells #[.bool false,.slice none 0 0,.bool false,.int .i64 0,.slice none 0 0,.slice none 0 0] 42)).alloc (.cells #[.bool false,.slice none 0 0,.bool false,.int .i64 0,.slice none 0 0,.slice none 0 0] 42)) (w.heap.size+1) 3 #[.int .i64 n]∧Blk ((((w.alloc (.cells #[.bool ch,.slice hA hl hc,.bool true,.int .i64 r.bound,.slice bA wl bc,.slice wA wl wc] 42)).alloc (.cells #[.int .i64 n] 3)).alloc (.cells #[.bool false,.slice none 0 0,.bool false,.int .i64 0,.slice none 0 0,.slice none 0 0] 42)).alloc (.cells #[.bool false,.slice none 0 0,.bool false,.int .i64 0,.slice none 0 0,.slice none 0 0] 42)) (w.heap.size+1+1) 42 #[.bool false,.slice none 0 0,.bool false,.int .i64 0,.slice none 0 0,.slice none 0 0]∧Blk ((((w.alloc (.cells #[.bool ch,.slice hA hl hc,.bool true,.int .i64 r.bound,.slice bA wl bc,.slice wA wl wc] 42)).alloc (.cells #[.int .i64 n] 3)).alloc (.cells #[.bool false,.slice none 0 0,.bool false,.int .i64 0,.slice none 0 0,.slice none 0 0] 42)).alloc (.cells #[.bool false,.slice none 0 0,.bool false,.int .i64 0,.slice none 0 0,.slice none 0 0] 42)) (w.heap.size+1+1+1) 42 #[.bool false,.slice none 0 0,.bool false,.int .i64 0,.slice none 0 0,.slice none 0 0]∧Below w.heap.size w ((((w.alloc (.cells #[.bool ch,.slice hA hl hc,.bool true,.int .i64 r.bound,.slice bA wl bc,.slice wA wl wc] 42)).alloc (.cells #[.int .i64 n] 3)).alloc (.cells #[.bool false,.slice none 0 0,.bool false,.int .i64 0,.slice none 0 0,.slice none 0 0] 42)).alloc (.cells #[.bool false,.slice none 0 0,.bool false,.int .i64 0,.slice none 0 0,.slice none 0 0] 42))∧(((((w.alloc (.cells #[.bool ch,.slice hA hl hc,.bool true,.int .i64 r.bound,.slice bA wl bc,.slice wA wl wc] 42)).alloc (.cells #[.int .i64 n] 3)).alloc (.cells #[.bool false,.slice none 0 0,.bool false,.int .i64 0,.slice none 0 0,.slice none 0 0] 42)).alloc (.cells #[.bool false,.slice none 0 0,.bool false,.int .i64 0,.slice none 0 0,.slice none 0 0] 42))).heap.size=w.heap.size+4:=
  ⟨(((blk_new rfl _ _).alloc _).alloc _).alloc _,((blk_new (by simp) _ _).alloc _).alloc _,(blk_new (by simp) _ _).alloc _,blk_new (by simp) _ _,bel_trans (bel_trans (bel_trans (bel_alloc _ _) (bel_alloc _ _)) (bel_alloc _ _)) (bel_alloc _ _),by simp⟩
 have hpb:=pre_body hp;have hph:=pre_head hp;have hnr:normR r=⟨ch,litsOf r.head,true,r.bound,litsOf r.body,(litsOf r.body).map (totP (r.body.zip r.w))⟩:=by unfold normR;rw[hs,hch];rfl
 rw[hs,hch];have hrb:=hr.bound
 obtain⟨HR,HP,HS,HCH,HHL,HBL,HPB,HPH,HNR,HW0,HRB⟩:=Zq11 hr hp hs hch hhl hbl hpb hph hnr hw0 hrb;clear hr hp hs hch hhl hbl hpb hph hnr hw0 hrb
 obtain⟨W0,hW0⟩:∃W0,W0=((((w.alloc (.cells #[.bool ch,.slice hA hl hc,.bool true,.int .i64 r.bound,.slice bA wl bc,.slice wA wl wc] 42)).alloc (.cells #[.int .i64 n] 3)).alloc (.cells #[.bool false,.slice none 0 0,.bool false,.int .i64 0,.slice none 0 0,.slice none 0 0] 42)).alloc (.cells #[.bool false,.slice none 0 0,.bool false,.int .i64 0,.slice none 0 0,.slice none 0 0] 42)):=⟨_,rfl⟩
 rw[← hW0]at hW
 obtain⟨bR,bN,bZ,bO,bW,hsz⟩:=hW
 have cCH:=fun W (hb:Below W0.heap.size W0 W)=>containsFuncI_any hA hl hc r.head 111 #[.pointer (some ⟨w.heap.size+1,0,none⟩)] (fun x=>decide (x<1) || decide (n<x)) W (HR.out.head.ext (bel_trans bW hb)) (fun args W=>by kernel_rfl)
  (fun W' x hb' _ _=>norm1_any (w.heap.size+1) n x W' (((bN.bel hb).bel hb').cell 0))
 have cCB:=fun W (hb:Below W0.heap.size W0 W)=>containsFuncI_any bA wl bc r.body 112 #[.pointer (some ⟨w.heap.size+1,0,none⟩)] (fun x=>!litB x n) W (HR.out.body.ext (bel_trans bW hb)) (fun args W=>by kernel_rfl)
  (fun W' x hb' _ hx=>norm2_any (w.heap.size+1) n x W' (((bN.bel hb).bel hb').cell 0) hx hn0 hn1)
 rw[HPH.out]at cCH;rw[HPB.out]at cCB
 obtain⟨BW,HSZ,CCH,CCB⟩:=Zq4 bW hsz cCH cCB;clear bW hsz cCH cCB
 have HBR:=Zq1 bR;have HBN:=Zq1 bN;have HBZ:=Zq1 bZ;have HBO:=Zq1 bO;have n0:=bN.cell 0;clear bR bN bZ bO;go_enter Tryz.func69,Tryz.ntmps69;rw[hW0]at n0
 cases ch with
 |true=>
  have hc1:=hc0 rfl;clear hc0;go_wp2_with fail;rw[← hW0];clear hW0 n0;go_fit (CCH.out W0 (Below.refl _ _));rintro e w1 ⟨rfl,hb1⟩;have q4:w1.cell? ⟨w.heap.size,4,none⟩=some (.slice bA wl bc):=(HBR.out.bel hb1).cell 4;have HB1:=Zq1 hb1;clear hb1;go_wp2_with fail;go_fit (CCB.out w1 HB1.out);rintro e w2 ⟨rfl,hb2⟩;have hb2':=bel_trans HB1.out hb2;clear q4;have q4:w2.cell? ⟨w.heap.size,4,none⟩=some (.slice bA wl bc):=(HBR.out.bel hb2').cell 4;have HB2':=Zq1 hb2';clear hb2';clear hb2;go_wp2_with fail;go_fit (ones_any wl w2 (by omega));rintro e w3 ⟨oA,oc,rfl,hos,hb3⟩;have hb3':=bel_trans HB2'.out hb3;have hbr:=HBR.out.bel hb3';clear q4;have q0:w3.cell? ⟨w.heap.size,0,none⟩=some (.bool true):=hbr.cell 0;have q2:w3.cell? ⟨w.heap.size,2,none⟩=some (.bool true):=hbr.cell 2;have q3:w3.cell? ⟨w.heap.size,3,none⟩=some (.int .i64 r.bound):=hbr.cell 3;have q4:w3.cell? ⟨w.heap.size,4,none⟩=some (.slice bA wl bc):=hbr.cell 4;have q5:w3.cell? ⟨w.heap.size,5,none⟩=some (.slice wA wl wc):=hbr.cell 5
  obtain⟨HB3',HOS,HBR⟩:=Zq3 hb3' hos hbr;clear hb3' hos hbr
  clear hb3;go_wp2_with fail;go_loop [8,52] (fun s t=>∃(k:Nat),k≤wl∧t=.int .i64 (k:Int)∧s=.int .i64 ((r.w.take k).sum)) (fun _ t=>wl-(intOf t).toNat)
  case atStart=>exact⟨0,Nat.zero_le _,rfl,by simp⟩
  case round=>
   obtain⟨k,hk,rfl,rfl⟩:=hrel
   have hts:=sum_take_le r.w k (fun y hy=>by have:=HW0.out.1 y hy;omega);have htn:0≤(r.w.take k).sum:=sum_nonneg fun y hy=>by have:=HW0.out.1 y (List.mem_of_mem_take hy);omega
   have htot:=HW0.out.2
   by_cases hlt:k<wl
   ·have k0:(0:Int)≤(k:Int):=(by omega);have k1:(k:Int)<(wl:Int):=(by omega)
    obtain⟨y,hy,-⟩:=HR.out.wt.drop hlt
    obtain⟨yb,yo,rfl,_,cy,yi⟩:=(HR.out.wt.ext (bel_trans BW.out HB3'.out)).int hy
    have hy1:=HW0.out.1 y (List.mem_of_getElem? hy);have hst:(r.w.take (k+1)).sum=(r.w.take k).sum+y:=(by rw[take_snoc' hy,List.sum_append];simp);have hts2:=sum_take_le r.w (k+1) (fun y hy=>by have:=HW0.out.1 y hy;omega);rw[hst]at hts2;generalize (r.w.take k).sum=S at *;have w1:IntKind.i64.wrap (1048576-S)=1048576-S:=IntWalk.i64_in _ (by omega);have w2:IntKind.i64.wrap (S+y)=S+y:=IntWalk.i64_in _ (by omega);have t1:¬y<0:=(by omega);have t2:¬1048576-S<y:=(by omega)
    obtain⟨HST,HY,YI⟩:=Zq3 hst hy yi;clear hst hy yi
    go_wp2_with fail;go_round
    case rel=>exact⟨k+1,by omega,by go_num,by rw[HST.out]⟩
    case measure=>simp[intOf];omega
   ·have k1:¬(k:Int)<(wl:Int):=(by omega);clear hts htn htot;generalize (r.w.take k).sum=S;go_wp2_with fail;clear q0 q2 q3 q4 q5
    obtain⟨g,hg⟩:∃g,g=w3.heap.size:=⟨_,rfl⟩
    obtain⟨X,hX⟩:∃X,X=w3.alloc (.cells #[.bool true,.slice none 0 0,.bool true,.int .i64 r.bound,.slice none 0 0,.slice none 0 0] 42):=⟨_,rfl⟩
    have hbX:Below w3.heap.size w3 X:=(by rw[hX];exact bel_alloc _ _);have hoX:Blk X g 42 #[.bool true,.slice none 0 0,.bool true,.int .i64 r.bound,.slice none 0 0,.slice none 0 0]:=(by rw[hX];exact blk_new hg.symm _ _);rw[← hX,← hg];have hoff:Off [g] oA wl:=fun h0 ad ea hm=>by have:=HOS.out.blk_lt h0 ea;simp at hm;omega
    have hg1:W0.heap.size≤g:=(by rw[hg];exact HB3'.out.size);clear hX;have hb0X:=bel_trans HB3'.out hbX;have hos2:=HOS.out.ext hbX;have hgX:g<X.heap.size:=hoX.lt;have hbrX:=HBR.out.bel hbX;have hbzX:=HBZ.out.bel hb0X;have hbwX:=bel_trans BW.out hb0X;have hh63:∀x∈r.head,-9223372036854775807≤x:=fun x hx=>by have:=HP.out.head x hx;omega
    have hb63:∀x∈r.body,-9223372036854775807≤x:=fun x hx=>lit_low (HP.out.body x hx) hn1;have hhX0:=HR.out.head;have hhX:=HR.out.head.ext hbwX;have hs4:=HSZ.out
    obtain⟨HOX,HB0X,HOS2,HOFF,HBRX,HBZX,HBWX,HH63,HB63,HHX0,HHX⟩:=Zq11 hoX hb0X hos2 hoff hbrX hbzX hbwX hh63 hb63 hhX0 hhX;clear hoX hb0X hos2 hoff hbrX hbzX hbwX hh63 hb63 hhX0 hhX
    clear hbX hg HOS;have hwX:=HR.out.wt.ext HBWX.out;have hoffw:Off [g] wA wl:=off_before HR.out.wt (fun q hq=>by simp at hq;have:=HSZ.out;omega)
    obtain⟨HWX,HOFFW⟩:=Zq2 hwX hoffw;clear hwX hoffw
    refine wp_region_inv (fun listed a' w'=>∃(b0 b1 b2 b3 b4 b5 b6 b7 b8 b9 b10 b11:Bool) (u116 u117 u118 u119 u120 u121 u122 u123 u124 u125 u126:Value),listed=#[b0,b1,b2,b3,b4,b5,b6,b7,b8,b9,b10,b11]∧a'={ tmps:=#[.agg #[.bool true,.slice hA hl hc,.bool true,.int .i64 r.bound,.slice bA wl bc,.slice wA wl wc],.int .i64 n,.pointer (some ⟨w.heap.size,0,none⟩),.pointer (some ⟨w.heap.size+1,0,none⟩),.pointer (some ⟨w.heap.size+1+1,0,none⟩),u5,.pointer (some ⟨w.heap.size+1+1+1,0,none⟩),.slice wA wl wc,.int .i64 S,undef,u10,.pointer (some ⟨g,0,none⟩),.agg #[.bool false,.slice none 0 0,.bool false,.int .i64 0,.slice none 0 0,.slice none 0 0],.bool (decide (n<0) || decide (4000<n)),.int .i64 n,.bool (decide (n<0)),.bool (decide (n<0)),.int .i64 n,.bool (decide (4000<n)),.bool (decide (n<0) || decide (4000<n)),undef,.bool false,.pointer (some ⟨w.heap.size,0,none⟩),.bool true,.bool true,.pointer (some ⟨w.heap.size,1,none⟩),.slice hA hl hc,.int .i64 (hl:Int),.bool false,.bool false,.bool false,.pointer (some ⟨w.heap.size,1,none⟩),.slice hA hl hc,Value.func (Fn.func 111) #[] #[.pointer (some ⟨w.heap.size+1,0,none⟩)],.bool false,.bool false,undef,.bool false,.pointer (some ⟨w.heap.size,4,none⟩),.slice bA wl bc,Value.func (Fn.func 112) #[] #[.pointer (some ⟨w.heap.size+1,0,none⟩)],.bool false,undef,.pointer (some ⟨w.heap.size,4,none⟩),.slice bA wl bc,.int .i64 (wl:Int),.slice oA wl oc,.pointer (some ⟨w.heap.size,2,none⟩),.bool true,.pointer (some ⟨w.heap.size,5,none⟩),.slice wA wl wc,.int .i64 (wl:Int),.int .i64 (k:Int),.bool false,u54,u55,u56,u57,u58,u59,u60,u61,u62,u63,u64,u65,u66,u67,u68,.pointer (some ⟨w.heap.size,5,none⟩),.slice wA wl wc,.pointer (some ⟨w.heap.size,2,none⟩),.bool true,.bool true,.pointer (some ⟨w.heap.size,5,none⟩),.slice wA wl wc,.int .i64 (wl:Int),.pointer (some ⟨w.heap.size,4,none⟩),.slice bA wl bc,.int .i64 (wl:Int),.bool false,.bool false,.pointer (some ⟨w.heap.size,3,none⟩),.int .i64 r.bound,.bool (decide (r.bound<0)),.bool (decide (r.bound<0)),.bool (decide (r.bound<0)),.pointer (some ⟨w.heap.size,3,none⟩),.int .i64 r.bound,.bool (decide (1048576<r.bound)),.bool (decide (r.bound<0) || decide (1048576<r.bound)),.bool (decide (r.bound<0) || decide (1048576<r.bound)),.bool (decide (r.bound<0) || decide (1048576<r.bound)),.pointer (some ⟨w.heap.size,2,none⟩),.bool true,.bool false,.bool false,undef,undef,undef,undef,undef,undef,undef,undef,undef,.bool false,.bool (decide (r.bound<0) || decide (1048576<r.bound)),undef,.pointer (some ⟨w.heap.size,0,none⟩),.bool true,.pointer (some ⟨w.heap.size,2,none⟩),.bool true,.pointer (some ⟨w.heap.size,3,none⟩),.int .i64 r.bound,.agg #[.bool true,.slice none 0 0,.bool true,.int .i64 r.bound,.slice none 0 0,.slice none 0 0],u116,u117,u118,u119,u120,u121,u122,u123,u124,u125,u126,undef,undef,undef,undef,undef,undef,undef,undef,undef,undef,undef,undef,undef,undef],defers:=[] }∧NrmJ X w.heap.size g (.slice hA hl hc) hl r.head true true r.bound w' b0 b1 b2 b3 b4 b5 b6 b7 b8 b9 b10 b11 u116 u117 u118 u119 u120 u121 u122 u123 u124 u125 u126) (by kernel_rfl) ?start ?step ?fin
    case start=>exact⟨false,false,false,false,false,false,false,false,false,false,false,false,_,_,_,_,_,_,_,_,_,_,_,rfl,rfl,NrmJ.start (Kept.refl _ _).drew HOX.out.drew⟩
    case step=>
     rintro listed a' w' i o ⟨b0,b1,b2,b3,b4,b5,b6,b7,b8,b9,b10,b11,u116,u117,u118,u119,u120,u121,u122,u123,u124,u125,u126,rfl,rfl,h⟩ ho hli hd K hK;have Zqx:=fun i h=>hd ⟨i,.data⟩ h rfl
     match i,ho,hli,hd with
     |0,ho,hli,hd=>obtain⟨rfl,rfl⟩:_∧b0=false:=Zqj ho hli;go_simp;exact hK _ _ ⟨_,_,_,_,_,_,_,_,_,_,_,_,_,_,_,_,_,_,_,_,_,_,_,rfl,rfl,{ h with f0:=fun _=>rfl }⟩
     |1,ho,hli,hd=>obtain⟨rfl,rfl⟩:_∧b1=false:=Zqj ho hli;obtain rfl:b0=true:=Zqx 0 (by simp);obtain rfl:=h.f0 rfl;have m0:w'.cell? ⟨w.heap.size,1,none⟩=some (.slice hA hl hc):=h.kept.cell (HBRX.out.cell 1) (by simp;omega);go_simp;exact hK _ _ ⟨_,_,_,_,_,_,_,_,_,_,_,_,_,_,_,_,_,_,_,_,_,_,_,rfl,rfl,{ h with f1:=fun _=>rfl,d6:=fun e=>⟨rfl,(h.d6 e).2⟩ }⟩
     |2,ho,hli,hd=>obtain⟨rfl,rfl⟩:_∧b2=false:=Zqj ho hli;go_simp;exact hK _ _ ⟨_,_,_,_,_,_,_,_,_,_,_,_,_,_,_,_,_,_,_,_,_,_,_,rfl,rfl,{ h with f2:=fun _=>rfl }⟩
     |3,ho,hli,hd=>obtain⟨rfl,rfl⟩:_∧b3=false:=Zqj ho hli;obtain rfl:b2=true:=Zqx 2 (by simp);obtain rfl:=h.f2 rfl;have m0:w'.cell? ⟨w.heap.size,1,none⟩=some (.slice hA hl hc):=h.kept.cell (HBRX.out.cell 1) (by simp;omega);go_simp;exact hK _ _ ⟨_,_,_,_,_,_,_,_,_,_,_,_,_,_,_,_,_,_,_,_,_,_,_,rfl,rfl,{ h with f3:=fun _=>rfl }⟩
     |4,ho,hli,hd=>obtain⟨rfl,rfl⟩:_∧b4=false:=Zqj ho hli;obtain rfl:b3=true:=Zqx 3 (by simp);obtain rfl:=h.f3 rfl;go_simp;exact hK _ _ ⟨_,_,_,_,_,_,_,_,_,_,_,_,_,_,_,_,_,_,_,_,_,_,_,rfl,rfl,{ h with f4:=fun _=>rfl }⟩
     |5,ho,hli,hd=>
      obtain⟨rfl,rfl⟩:_∧b5=false:=Zqj ho hli;obtain rfl:b4=true:=Zqx 4 (by simp);obtain rfl:=h.f4 rfl;go_simp
      refine(ones_any hl w' (by omega)).mono ?_
      rintro e v ⟨A,c,rfl,hso,hbo⟩;exact hK _ _ ⟨_,_,_,_,_,_,_,_,_,_,_,_,_,_,_,_,_,_,_,_,_,_,_,rfl,rfl,h.op5 hbo hso⟩
     |6,ho,hli,hd=>
      obtain⟨rfl,rfl⟩:_∧b6=false:=Zqj ho hli;obtain rfl:b1=true:=Zqx 1 (by simp);obtain rfl:b5=true:=Zqx 5 (by simp);obtain rfl:=h.f1 rfl
      obtain⟨oA1,oc1,rfl,hso⟩:=h.f5 rfl rfl
      go_simp
      refine(sorted_any hA hl hc oA1 hl oc1 r.head _ w' (HHX.out.keptM h.kept (off_before HHX0.out (fun q hq=>by simp at hq;omega))) hso rfl hl5 HH63.out (fun y hy=>by rw[List.eq_of_mem_replicate hy];omega) (by rw[ones_sum];omega)).mono ?_
      rintro e v ⟨A,l,c,D,k,q,rfl,hso1,-,hfo1,-,hbo⟩;exact hK _ _ ⟨_,_,_,_,_,_,_,_,_,_,_,_,_,_,_,_,_,_,_,_,_,_,_,rfl,rfl,h.op6 hbo hso1 hfo1⟩
     |7,ho,hli,hd=>obtain⟨rfl,rfl⟩:_∧b7=false:=Zqj ho hli;obtain rfl:b6=true:=Zqx 6 (by simp);go_simp;exact hK _ _ ⟨_,_,_,_,_,_,_,_,_,_,_,_,_,_,_,_,_,_,_,_,_,_,_,rfl,rfl,h.op7⟩
     |8,ho,hli,hd=>
      obtain⟨rfl,rfl⟩:_∧b8=false:=Zqj ho hli;obtain rfl:b7=true:=Zqx 7 (by simp)
      obtain⟨A,l,c,D,k,q,rfl,h'⟩:=h.op8
      go_simp;exact hK _ _ ⟨_,_,_,_,_,_,_,_,_,_,_,_,_,_,_,_,_,_,_,_,_,_,_,rfl,rfl,h'⟩
     |9,ho,hli,hd=>
      obtain⟨rfl,rfl⟩:_∧b9=false:=Zqj ho hli;obtain rfl:b7=true:=Zqx 7 (by simp)
      obtain⟨A,l,c,D,k,q,rfl⟩:=h.tup
      go_simp;exact hK _ _ ⟨_,_,_,_,_,_,_,_,_,_,_,_,_,_,_,_,_,_,_,_,_,_,_,rfl,rfl,{ h with d9:=fun _=>rfl }⟩
     |10,ho,hli,hd=>obtain⟨rfl,rfl⟩:_∧b10=false:=Zqj ho hli;go_simp;exact hK _ _ ⟨_,_,_,_,_,_,_,_,_,_,_,_,_,_,_,_,_,_,_,_,_,_,_,rfl,rfl,{ h with f10:=fun _=>rfl,d11:=fun e=>⟨(h.d11 e).1,rfl⟩ }⟩
     |11,ho,hli,hd=>
      obtain⟨rfl,rfl⟩:_∧b11=false:=Zqj ho hli;obtain rfl:b8=true:=Zqx 8 (by simp);obtain rfl:b10=true:=Zqx 10 (by simp);obtain rfl:=h.f10 rfl
      obtain⟨A,l,c,rfl,m1,m2,h'⟩:=h.op11 hgX
      go_simp;exact hK _ _ ⟨_,_,_,_,_,_,_,_,_,_,_,_,_,_,_,_,_,_,_,_,_,_,_,rfl,rfl,h'⟩
     |i+12,ho,hli,hd=>simp at ho
    case fin=>
     rintro listed a' w' ⟨b0,b1,b2,b3,b4,b5,b6,b7,b8,b9,b10,b11,u116,u117,u118,u119,u120,u121,u122,u123,u124,u125,u126,rfl,rfl,h⟩ hr;obtain rfl:b0=true:=Zqn hr 0 rfl;obtain rfl:b1=true:=Zqn hr 1 rfl;obtain rfl:b2=true:=Zqn hr 2 rfl;obtain rfl:b3=true:=Zqn hr 3 rfl;obtain rfl:b4=true:=Zqn hr 4 rfl;obtain rfl:b5=true:=Zqn hr 5 rfl;obtain rfl:b6=true:=Zqn hr 6 rfl;obtain rfl:b7=true:=Zqn hr 7 rfl;obtain rfl:b8=true:=Zqn hr 8 rfl;obtain rfl:b9=true:=Zqn hr 9 rfl;obtain rfl:b10=true:=Zqn hr 10 rfl;obtain rfl:b11=true:=Zqn hr 11 rfl;clear hr;have hkp:=h.kept
     obtain⟨A1,l1,c1,D1,k1,q1,-,hs1,hf1,-,-,hgb0⟩:=h.row rfl
     have hgb:=hgb0 rfl;clear h hgb0;have hbw:=Kept.below HBWX.out hkp (by omega) (fun z hz=>by simp at hz;omega);have hszk:=hkp.size;have hbrk:=hkp.blk HBRX.out (by simp;omega);have q4:w'.cell? ⟨w.heap.size,4,none⟩=some (.slice bA wl bc):=hbrk.cell 4;have cY:=sorted_any bA wl bc wA wl wc r.body r.w w' (HR.out.body.ext hbw) (HWX.out.keptM hkp HOFFW.out) rfl bl5 HB63.out HW0.out.1 (by have:=HW0.out.2;omega);have hzk:=hkp.blk HBZX.out (by simp;omega)
     obtain⟨HKP,HS1,HF1,HGB,HBW,HBRK,CY,HZK⟩:=Zq8 hkp hs1 hf1 hgb hbw hbrk cY hzk;clear hkp hs1 hf1 hgb hbw hbrk cY hzk
     go_wp2_with fail;go_fit CY.out;rintro e w5 ⟨A2,l2,c2,D2,k2,p2,rfl,hs2,ht2,hf2,hu2,hb5⟩;clear q4;have hg5:=HGB.out.bel hb5;have hg6:=hg5.set_ 4 (.slice A2 l2 c2);have hg7:=hg6.set_ 5 (.slice D2 k2 p2);have hg8:=hg7;have e4:=hg5.cell 4;have f4:=hg5.frozen 4;have e5:=hg6.cell 5;have f5:=hg6.frozen 5;have kA:Kept [g] w5 (w5.setCell ⟨g,4,none⟩ (.slice A2 l2 c2)):=(Kept.refl _ _).set (.inl (by simp)) _;have kB:Kept [g] w5 ((w5.setCell ⟨g,4,none⟩ (.slice A2 l2 c2)).setCell ⟨g,5,none⟩ (.slice D2 k2 p2)):=kA.set (.inl (by simp)) _;have kC:=kB;have hbr5:=HBRK.out.bel hb5;have hbr7:=kB.blk hbr5 (by simp;omega);have r2:((w5.setCell ⟨g,4,none⟩ (.slice A2 l2 c2)).setCell ⟨g,5,none⟩ (.slice D2 k2 p2)).cell? ⟨w.heap.size,2,none⟩=some (.bool true):=hbr7.cell 2;have hz8:=kC.blk (HZK.out.bel hb5) (by simp;omega);have hgl:g<((w5.setCell ⟨g,4,none⟩ (.slice A2 l2 c2)).setCell ⟨g,5,none⟩ (.slice D2 k2 p2)).heap.size:=hg8.lt;have kD:Kept [g,w.heap.size+1+1] w5 (((w5.setCell ⟨g,4,none⟩ (.slice A2 l2 c2)).setCell ⟨g,5,none⟩ (.slice D2 k2 p2)).setRow (w.heap.size+1+1) #[.bool true,.slice A1 l1 c1,.bool true,.int .i64 r.bound,.slice A2 l2 c2,.slice D2 k2 p2]):=(kC.more (by simp)).row (.inl (by simp)) _;have hbf:=Kept.below (bel_trans HBW.out hb5) kD (by have:=HBW.out.size;have:=hb5.size;omega) (fun z hz=>by simp at hz;omega);have fz:Blk (((w5.setCell ⟨g,4,none⟩ (.slice A2 l2 c2)).setCell ⟨g,5,none⟩ (.slice D2 k2 p2)).setRow (w.heap.size+1+1) #[.bool true,.slice A1 l1 c1,.bool true,.int .i64 r.bound,.slice A2 l2 c2,.slice D2 k2 p2]) (w.heap.size+1+1) 42 #[.bool true,.slice A1 l1 c1,.bool true,.int .i64 r.bound,.slice A2 l2 c2,.slice D2 k2 p2]:=hz8.row _;have hw5:=hb5.size;have hsh:=(HS1.out.ext hb5).keptM kD (fun h0 ad ea hm=>by have:=HF1.out h0 ad ea;simp at hm;omega);have hsb:=hs2.keptM kD (fun h0 ad ea hm=>by have:=hf2 h0 ad ea;simp at hm;omega);have hsw:=ht2.keptM kD (fun h0 ad ea hm=>by have:=hu2 h0 ad ea;simp at hm;omega);have hfh:=HF1.out.mono (show w.heap.size≤X.heap.size by omega);have hfb:=hf2.mono (show w.heap.size≤w'.heap.size by omega);have hfw:=hu2.mono (show w.heap.size≤w'.heap.size by omega)
     obtain⟨HS2,HT2,HF2,HU2,HB5,HG5,HG6,HG7,HG8,KA,KB,KC⟩:=Zq12 hs2 ht2 hf2 hu2 hb5 hg5 hg6 hg7 hg8 kA kB kC;clear hs2 ht2 hf2 hu2 hb5 hg5 hg6 hg7 hg8 kA kB kC
     obtain⟨HBR5,HBR7,HZ8,KD,HBF,FZ,HSH,HSB,HSW,HFH,HFB,HFW⟩:=Zq12 hbr5 hbr7 hz8 kD hbf fz hsh hsb hsw hfh hfb hfw;clear hbr5 hbr7 hz8 kD hbf fz hsh hsb hsw hfh hfb hfw
     go_wp2_with (first
      | (refine wpList_load_row (by rfl) 42 _ (by rfl) g (by rfl) 42 #[.bool true,.slice A1 l1 c1,.bool true,.int .i64 r.bound,.slice A2 l2 c2,.slice D2 k2 p2] (0,0) _ HG8.out Tryz.underlying42 rfl info_rule ?_)
      | (refine wpList_store_row (by rfl) 42 _ _ (by rfl) (w.heap.size+1+1) #[.bool true,.slice A1 l1 c1,.bool true,.int .i64 r.bound,.slice A2 l2 c2,.slice D2 k2 p2] (by rfl) (by rfl) 42 _ HZ8.out info_rule (by rfl) (by simp[Value.oneCell']) ?_))
     refine bodyPost_ret (results_row_tmp rfl _ _ (w.heap.size+1+1) 42 #[.bool true,.slice A1 l1 c1,.bool true,.int .i64 r.bound,.slice A2 l2 c2,.slice D2 k2 p2] _ (.int .i64 0) rfl rfl FZ.out Tryz.underlying42 rfl info_rule) rfl ?_;rw[HNR.out]
     exact⟨A1,l1,c1,A2,l2,c2,D2,k2,p2,rfl,⟨HSH.out,HRB.out,HSB.out,HSW.out⟩,HFH.out,HFB.out,HFW.out,HBF.out⟩
 |false=>
  clear hc0;go_wp2_with fail;rw[← hW0];clear hW0 n0;go_fit (CCH.out W0 (Below.refl _ _));rintro e w1 ⟨rfl,hb1⟩;have q4:w1.cell? ⟨w.heap.size,4,none⟩=some (.slice bA wl bc):=(HBR.out.bel hb1).cell 4;have HB1:=Zq1 hb1;clear hb1;go_wp2_with fail;go_fit (CCB.out w1 HB1.out);rintro e w2 ⟨rfl,hb2⟩;have hb2':=bel_trans HB1.out hb2;clear q4;have q4:w2.cell? ⟨w.heap.size,4,none⟩=some (.slice bA wl bc):=(HBR.out.bel hb2').cell 4;have HB2':=Zq1 hb2';clear hb2';clear hb2;go_wp2_with fail;go_fit (ones_any wl w2 (by omega));rintro e w3 ⟨oA,oc,rfl,hos,hb3⟩;have hb3':=bel_trans HB2'.out hb3;have hbr:=HBR.out.bel hb3';clear q4;have q0:w3.cell? ⟨w.heap.size,0,none⟩=some (.bool false):=hbr.cell 0;have q2:w3.cell? ⟨w.heap.size,2,none⟩=some (.bool true):=hbr.cell 2;have q3:w3.cell? ⟨w.heap.size,3,none⟩=some (.int .i64 r.bound):=hbr.cell 3;have q4:w3.cell? ⟨w.heap.size,4,none⟩=some (.slice bA wl bc):=hbr.cell 4;have q5:w3.cell? ⟨w.heap.size,5,none⟩=some (.slice wA wl wc):=hbr.cell 5
  obtain⟨HB3',HOS,HBR⟩:=Zq3 hb3' hos hbr;clear hb3' hos hbr
  clear hb3;go_wp2_with fail;go_loop [8,52] (fun s t=>∃(k:Nat),k≤wl∧t=.int .i64 (k:Int)∧s=.int .i64 ((r.w.take k).sum)) (fun _ t=>wl-(intOf t).toNat)
  case atStart=>exact⟨0,Nat.zero_le _,rfl,by simp⟩
  case round=>
   obtain⟨k,hk,rfl,rfl⟩:=hrel
   have hts:=sum_take_le r.w k (fun y hy=>by have:=HW0.out.1 y hy;omega);have htn:0≤(r.w.take k).sum:=sum_nonneg fun y hy=>by have:=HW0.out.1 y (List.mem_of_mem_take hy);omega
   have htot:=HW0.out.2
   by_cases hlt:k<wl
   ·have k0:(0:Int)≤(k:Int):=(by omega);have k1:(k:Int)<(wl:Int):=(by omega)
    obtain⟨y,hy,-⟩:=HR.out.wt.drop hlt
    obtain⟨yb,yo,rfl,_,cy,yi⟩:=(HR.out.wt.ext (bel_trans BW.out HB3'.out)).int hy
    have hy1:=HW0.out.1 y (List.mem_of_getElem? hy);have hst:(r.w.take (k+1)).sum=(r.w.take k).sum+y:=(by rw[take_snoc' hy,List.sum_append];simp);have hts2:=sum_take_le r.w (k+1) (fun y hy=>by have:=HW0.out.1 y hy;omega);rw[hst]at hts2;generalize (r.w.take k).sum=S at *;have w1:IntKind.i64.wrap (1048576-S)=1048576-S:=IntWalk.i64_in _ (by omega);have w2:IntKind.i64.wrap (S+y)=S+y:=IntWalk.i64_in _ (by omega);have t1:¬y<0:=(by omega);have t2:¬1048576-S<y:=(by omega)
    obtain⟨HST,HY,YI⟩:=Zq3 hst hy yi;clear hst hy yi
    go_wp2_with fail;go_round
    case rel=>exact⟨k+1,by omega,by go_num,by rw[HST.out]⟩
    case measure=>simp[intOf];omega
   ·have k1:¬(k:Int)<(wl:Int):=(by omega);clear hts htn htot;generalize (r.w.take k).sum=S;go_wp2_with fail;clear q0 q2 q3 q4 q5
    obtain⟨g,hg⟩:∃g,g=w3.heap.size:=⟨_,rfl⟩
    obtain⟨X,hX⟩:∃X,X=w3.alloc (.cells #[.bool false,.slice none 0 0,.bool true,.int .i64 r.bound,.slice none 0 0,.slice none 0 0] 42):=⟨_,rfl⟩
    have hbX:Below w3.heap.size w3 X:=(by rw[hX];exact bel_alloc _ _);have hoX:Blk X g 42 #[.bool false,.slice none 0 0,.bool true,.int .i64 r.bound,.slice none 0 0,.slice none 0 0]:=(by rw[hX];exact blk_new hg.symm _ _);rw[← hX,← hg];have hoff:Off [g] oA wl:=fun h0 ad ea hm=>by have:=HOS.out.blk_lt h0 ea;simp at hm;omega
    have hg1:W0.heap.size≤g:=(by rw[hg];exact HB3'.out.size);clear hX;have hb0X:=bel_trans HB3'.out hbX;have hos2:=HOS.out.ext hbX;have hgX:g<X.heap.size:=hoX.lt;have hbrX:=HBR.out.bel hbX;have hbzX:=HBZ.out.bel hb0X;have hbwX:=bel_trans BW.out hb0X;have hh63:∀x∈r.head,-9223372036854775807≤x:=fun x hx=>by have:=HP.out.head x hx;omega
    have hb63:∀x∈r.body,-9223372036854775807≤x:=fun x hx=>lit_low (HP.out.body x hx) hn1;have hhX0:=HR.out.head;have hhX:=HR.out.head.ext hbwX;have hs4:=HSZ.out
    obtain⟨HOX,HB0X,HOS2,HOFF,HBRX,HBZX,HBWX,HH63,HB63,HHX0,HHX⟩:=Zq11 hoX hb0X hos2 hoff hbrX hbzX hbwX hh63 hb63 hhX0 hhX;clear hoX hb0X hos2 hoff hbrX hbzX hbwX hh63 hb63 hhX0 hhX
    clear hbX hg HOS;have hwX:=HR.out.wt.ext HBWX.out;have hoffw:Off [g] wA wl:=off_before HR.out.wt (fun q hq=>by simp at hq;have:=HSZ.out;omega)
    obtain⟨HWX,HOFFW⟩:=Zq2 hwX hoffw;clear hwX hoffw
    refine wp_region_inv (fun listed a' w'=>∃(b0 b1 b2 b3 b4 b5 b6 b7 b8 b9 b10 b11:Bool) (u116 u117 u118 u119 u120 u121 u122 u123 u124 u125 u126:Value),listed=#[b0,b1,b2,b3,b4,b5,b6,b7,b8,b9,b10,b11]∧a'={ tmps:=#[.agg #[.bool false,.slice hA hl hc,.bool true,.int .i64 r.bound,.slice bA wl bc,.slice wA wl wc],.int .i64 n,.pointer (some ⟨w.heap.size,0,none⟩),.pointer (some ⟨w.heap.size+1,0,none⟩),.pointer (some ⟨w.heap.size+1+1,0,none⟩),u5,.pointer (some ⟨w.heap.size+1+1+1,0,none⟩),.slice wA wl wc,.int .i64 S,undef,u10,.pointer (some ⟨g,0,none⟩),.agg #[.bool false,.slice none 0 0,.bool false,.int .i64 0,.slice none 0 0,.slice none 0 0],.bool (decide (n<0) || decide (4000<n)),.int .i64 n,.bool (decide (n<0)),.bool (decide (n<0)),.int .i64 n,.bool (decide (4000<n)),.bool (decide (n<0) || decide (4000<n)),undef,.bool false,.pointer (some ⟨w.heap.size,0,none⟩),.bool false,.bool false,undef,undef,undef,undef,.bool false,.bool false,.pointer (some ⟨w.heap.size,1,none⟩),.slice hA hl hc,Value.func (Fn.func 111) #[] #[.pointer (some ⟨w.heap.size+1,0,none⟩)],.bool false,.bool false,undef,.bool false,.pointer (some ⟨w.heap.size,4,none⟩),.slice bA wl bc,Value.func (Fn.func 112) #[] #[.pointer (some ⟨w.heap.size+1,0,none⟩)],.bool false,undef,.pointer (some ⟨w.heap.size,4,none⟩),.slice bA wl bc,.int .i64 (wl:Int),.slice oA wl oc,.pointer (some ⟨w.heap.size,2,none⟩),.bool true,.pointer (some ⟨w.heap.size,5,none⟩),.slice wA wl wc,.int .i64 (wl:Int),.int .i64 (k:Int),.bool false,u54,u55,u56,u57,u58,u59,u60,u61,u62,u63,u64,u65,u66,u67,u68,.pointer (some ⟨w.heap.size,5,none⟩),.slice wA wl wc,.pointer (some ⟨w.heap.size,2,none⟩),.bool true,.bool true,.pointer (some ⟨w.heap.size,5,none⟩),.slice wA wl wc,.int .i64 (wl:Int),.pointer (some ⟨w.heap.size,4,none⟩),.slice bA wl bc,.int .i64 (wl:Int),.bool false,.bool false,.pointer (some ⟨w.heap.size,3,none⟩),.int .i64 r.bound,.bool (decide (r.bound<0)),.bool (decide (r.bound<0)),.bool (decide (r.bound<0)),.pointer (some ⟨w.heap.size,3,none⟩),.int .i64 r.bound,.bool (decide (1048576<r.bound)),.bool (decide (r.bound<0) || decide (1048576<r.bound)),.bool (decide (r.bound<0) || decide (1048576<r.bound)),.bool (decide (r.bound<0) || decide (1048576<r.bound)),.pointer (some ⟨w.heap.size,2,none⟩),.bool true,.bool false,.bool false,undef,undef,undef,undef,undef,undef,undef,undef,undef,.bool false,.bool (decide (r.bound<0) || decide (1048576<r.bound)),undef,.pointer (some ⟨w.heap.size,0,none⟩),.bool false,.pointer (some ⟨w.heap.size,2,none⟩),.bool true,.pointer (some ⟨w.heap.size,3,none⟩),.int .i64 r.bound,.agg #[.bool false,.slice none 0 0,.bool true,.int .i64 r.bound,.slice none 0 0,.slice none 0 0],u116,u117,u118,u119,u120,u121,u122,u123,u124,u125,u126,undef,undef,undef,undef,undef,undef,undef,undef,undef,undef,undef,undef,undef,undef],defers:=[] }∧NrmJ X w.heap.size g (.slice hA hl hc) hl r.head false true r.bound w' b0 b1 b2 b3 b4 b5 b6 b7 b8 b9 b10 b11 u116 u117 u118 u119 u120 u121 u122 u123 u124 u125 u126) (by kernel_rfl) ?start ?step ?fin
    case start=>exact⟨false,false,false,false,false,false,false,false,false,false,false,false,_,_,_,_,_,_,_,_,_,_,_,rfl,rfl,NrmJ.start (Kept.refl _ _).drew HOX.out.drew⟩
    case step=>
     rintro listed a' w' i o ⟨b0,b1,b2,b3,b4,b5,b6,b7,b8,b9,b10,b11,u116,u117,u118,u119,u120,u121,u122,u123,u124,u125,u126,rfl,rfl,h⟩ ho hli hd K hK;have Zqx:=fun i h=>hd ⟨i,.data⟩ h rfl
     match i,ho,hli,hd with
     |0,ho,hli,hd=>obtain⟨rfl,rfl⟩:_∧b0=false:=Zqj ho hli;go_simp;exact hK _ _ ⟨_,_,_,_,_,_,_,_,_,_,_,_,_,_,_,_,_,_,_,_,_,_,_,rfl,rfl,{ h with f0:=fun _=>rfl }⟩
     |1,ho,hli,hd=>obtain⟨rfl,rfl⟩:_∧b1=false:=Zqj ho hli;obtain rfl:b0=true:=Zqx 0 (by simp);obtain rfl:=h.f0 rfl;have m0:w'.cell? ⟨w.heap.size,1,none⟩=some (.slice hA hl hc):=h.kept.cell (HBRX.out.cell 1) (by simp;omega);go_simp;exact hK _ _ ⟨_,_,_,_,_,_,_,_,_,_,_,_,_,_,_,_,_,_,_,_,_,_,_,rfl,rfl,{ h with f1:=fun _=>rfl,d6:=fun e=>⟨rfl,(h.d6 e).2⟩ }⟩
     |2,ho,hli,hd=>obtain⟨rfl,rfl⟩:_∧b2=false:=Zqj ho hli;go_simp;exact hK _ _ ⟨_,_,_,_,_,_,_,_,_,_,_,_,_,_,_,_,_,_,_,_,_,_,_,rfl,rfl,{ h with f2:=fun _=>rfl }⟩
     |3,ho,hli,hd=>obtain⟨rfl,rfl⟩:_∧b3=false:=Zqj ho hli;obtain rfl:b2=true:=Zqx 2 (by simp);obtain rfl:=h.f2 rfl;have m0:w'.cell? ⟨w.heap.size,1,none⟩=some (.slice hA hl hc):=h.kept.cell (HBRX.out.cell 1) (by simp;omega);go_simp;exact hK _ _ ⟨_,_,_,_,_,_,_,_,_,_,_,_,_,_,_,_,_,_,_,_,_,_,_,rfl,rfl,{ h with f3:=fun _=>rfl }⟩
     |4,ho,hli,hd=>obtain⟨rfl,rfl⟩:_∧b4=false:=Zqj ho hli;obtain rfl:b3=true:=Zqx 3 (by simp);obtain rfl:=h.f3 rfl;go_simp;exact hK _ _ ⟨_,_,_,_,_,_,_,_,_,_,_,_,_,_,_,_,_,_,_,_,_,_,_,rfl,rfl,{ h with f4:=fun _=>rfl }⟩
     |5,ho,hli,hd=>
      obtain⟨rfl,rfl⟩:_∧b5=false:=Zqj ho hli;obtain rfl:b4=true:=Zqx 4 (by simp);obtain rfl:=h.f4 rfl;go_simp
      refine(ones_any hl w' (by omega)).mono ?_
      rintro e v ⟨A,c,rfl,hso,hbo⟩;exact hK _ _ ⟨_,_,_,_,_,_,_,_,_,_,_,_,_,_,_,_,_,_,_,_,_,_,_,rfl,rfl,h.op5 hbo hso⟩
     |6,ho,hli,hd=>
      obtain⟨rfl,rfl⟩:_∧b6=false:=Zqj ho hli;obtain rfl:b1=true:=Zqx 1 (by simp);obtain rfl:b5=true:=Zqx 5 (by simp);obtain rfl:=h.f1 rfl
      obtain⟨oA1,oc1,rfl,hso⟩:=h.f5 rfl rfl
      go_simp
      refine(sorted_any hA hl hc oA1 hl oc1 r.head _ w' (HHX.out.keptM h.kept (off_before HHX0.out (fun q hq=>by simp at hq;omega))) hso rfl hl5 HH63.out (fun y hy=>by rw[List.eq_of_mem_replicate hy];omega) (by rw[ones_sum];omega)).mono ?_
      rintro e v ⟨A,l,c,D,k,q,rfl,hso1,-,hfo1,-,hbo⟩;exact hK _ _ ⟨_,_,_,_,_,_,_,_,_,_,_,_,_,_,_,_,_,_,_,_,_,_,_,rfl,rfl,h.op6 hbo hso1 hfo1⟩
     |7,ho,hli,hd=>obtain⟨rfl,rfl⟩:_∧b7=false:=Zqj ho hli;obtain rfl:b6=true:=Zqx 6 (by simp);go_simp;exact hK _ _ ⟨_,_,_,_,_,_,_,_,_,_,_,_,_,_,_,_,_,_,_,_,_,_,_,rfl,rfl,h.op7⟩
     |8,ho,hli,hd=>
      obtain⟨rfl,rfl⟩:_∧b8=false:=Zqj ho hli;obtain rfl:b7=true:=Zqx 7 (by simp)
      obtain⟨A,l,c,D,k,q,rfl,h'⟩:=h.op8
      go_simp;exact hK _ _ ⟨_,_,_,_,_,_,_,_,_,_,_,_,_,_,_,_,_,_,_,_,_,_,_,rfl,rfl,h'⟩
     |9,ho,hli,hd=>
      obtain⟨rfl,rfl⟩:_∧b9=false:=Zqj ho hli;obtain rfl:b7=true:=Zqx 7 (by simp)
      obtain⟨A,l,c,D,k,q,rfl⟩:=h.tup
      go_simp;exact hK _ _ ⟨_,_,_,_,_,_,_,_,_,_,_,_,_,_,_,_,_,_,_,_,_,_,_,rfl,rfl,{ h with d9:=fun _=>rfl }⟩
     |10,ho,hli,hd=>obtain⟨rfl,rfl⟩:_∧b10=false:=Zqj ho hli;go_simp;exact hK _ _ ⟨_,_,_,_,_,_,_,_,_,_,_,_,_,_,_,_,_,_,_,_,_,_,_,rfl,rfl,{ h with f10:=fun _=>rfl,d11:=fun e=>⟨(h.d11 e).1,rfl⟩ }⟩
     |11,ho,hli,hd=>
      obtain⟨rfl,rfl⟩:_∧b11=false:=Zqj ho hli;obtain rfl:b8=true:=Zqx 8 (by simp);obtain rfl:b10=true:=Zqx 10 (by simp);obtain rfl:=h.f10 rfl
      obtain⟨A,l,c,rfl,m1,m2,h'⟩:=h.op11 hgX
      go_simp;exact hK _ _ ⟨_,_,_,_,_,_,_,_,_,_,_,_,_,_,_,_,_,_,_,_,_,_,_,rfl,rfl,h'⟩
     |i+12,ho,hli,hd=>simp at ho
    case fin=>
     rintro listed a' w' ⟨b0,b1,b2,b3,b4,b5,b6,b7,b8,b9,b10,b11,u116,u117,u118,u119,u120,u121,u122,u123,u124,u125,u126,rfl,rfl,h⟩ hr;obtain rfl:b0=true:=Zqn hr 0 rfl;obtain rfl:b1=true:=Zqn hr 1 rfl;obtain rfl:b2=true:=Zqn hr 2 rfl;obtain rfl:b3=true:=Zqn hr 3 rfl;obtain rfl:b4=true:=Zqn hr 4 rfl;obtain rfl:b5=true:=Zqn hr 5 rfl;obtain rfl:b6=true:=Zqn hr 6 rfl;obtain rfl:b7=true:=Zqn hr 7 rfl;obtain rfl:b8=true:=Zqn hr 8 rfl;obtain rfl:b9=true:=Zqn hr 9 rfl;obtain rfl:b10=true:=Zqn hr 10 rfl;obtain rfl:b11=true:=Zqn hr 11 rfl;clear hr;have hkp:=h.kept
     obtain⟨A1,l1,c1,D1,k1,q1,-,hs1,hf1,-,-,hgb0⟩:=h.row rfl
     have hgb:=hgb0 rfl;clear h hgb0;have hbw:=Kept.below HBWX.out hkp (by omega) (fun z hz=>by simp at hz;omega);have hszk:=hkp.size;have hbrk:=hkp.blk HBRX.out (by simp;omega);have q4:w'.cell? ⟨w.heap.size,4,none⟩=some (.slice bA wl bc):=hbrk.cell 4;have cY:=sorted_any bA wl bc wA wl wc r.body r.w w' (HR.out.body.ext hbw) (HWX.out.keptM hkp HOFFW.out) rfl bl5 HB63.out HW0.out.1 (by have:=HW0.out.2;omega);have hzk:=hkp.blk HBZX.out (by simp;omega)
     obtain⟨HKP,HS1,HF1,HGB,HBW,HBRK,CY,HZK⟩:=Zq8 hkp hs1 hf1 hgb hbw hbrk cY hzk;clear hkp hs1 hf1 hgb hbw hbrk cY hzk
     go_wp2_with fail;go_fit CY.out;rintro e w5 ⟨A2,l2,c2,D2,k2,p2,rfl,hs2,ht2,hf2,hu2,hb5⟩;clear q4;have hg5:=HGB.out.bel hb5;have hg6:=hg5.set_ 4 (.slice A2 l2 c2);have hg7:=hg6.set_ 5 (.slice D2 k2 p2);have hg8:=hg7;have e4:=hg5.cell 4;have f4:=hg5.frozen 4;have e5:=hg6.cell 5;have f5:=hg6.frozen 5;have kA:Kept [g] w5 (w5.setCell ⟨g,4,none⟩ (.slice A2 l2 c2)):=(Kept.refl _ _).set (.inl (by simp)) _;have kB:Kept [g] w5 ((w5.setCell ⟨g,4,none⟩ (.slice A2 l2 c2)).setCell ⟨g,5,none⟩ (.slice D2 k2 p2)):=kA.set (.inl (by simp)) _;have kC:=kB;have hbr5:=HBRK.out.bel hb5;have hbr7:=kB.blk hbr5 (by simp;omega);have r2:((w5.setCell ⟨g,4,none⟩ (.slice A2 l2 c2)).setCell ⟨g,5,none⟩ (.slice D2 k2 p2)).cell? ⟨w.heap.size,2,none⟩=some (.bool true):=hbr7.cell 2;have hz8:=kC.blk (HZK.out.bel hb5) (by simp;omega);have hgl:g<((w5.setCell ⟨g,4,none⟩ (.slice A2 l2 c2)).setCell ⟨g,5,none⟩ (.slice D2 k2 p2)).heap.size:=hg8.lt;have kD:Kept [g,w.heap.size+1+1] w5 (((w5.setCell ⟨g,4,none⟩ (.slice A2 l2 c2)).setCell ⟨g,5,none⟩ (.slice D2 k2 p2)).setRow (w.heap.size+1+1) #[.bool false,.slice A1 l1 c1,.bool true,.int .i64 r.bound,.slice A2 l2 c2,.slice D2 k2 p2]):=(kC.more (by simp)).row (.inl (by simp)) _;have hbf:=Kept.below (bel_trans HBW.out hb5) kD (by have:=HBW.out.size;have:=hb5.size;omega) (fun z hz=>by simp at hz;omega);have fz:Blk (((w5.setCell ⟨g,4,none⟩ (.slice A2 l2 c2)).setCell ⟨g,5,none⟩ (.slice D2 k2 p2)).setRow (w.heap.size+1+1) #[.bool false,.slice A1 l1 c1,.bool true,.int .i64 r.bound,.slice A2 l2 c2,.slice D2 k2 p2]) (w.heap.size+1+1) 42 #[.bool false,.slice A1 l1 c1,.bool true,.int .i64 r.bound,.slice A2 l2 c2,.slice D2 k2 p2]:=hz8.row _;have hw5:=hb5.size;have hsh:=(HS1.out.ext hb5).keptM kD (fun h0 ad ea hm=>by have:=HF1.out h0 ad ea;simp at hm;omega);have hsb:=hs2.keptM kD (fun h0 ad ea hm=>by have:=hf2 h0 ad ea;simp at hm;omega);have hsw:=ht2.keptM kD (fun h0 ad ea hm=>by have:=hu2 h0 ad ea;simp at hm;omega);have hfh:=HF1.out.mono (show w.heap.size≤X.heap.size by omega);have hfb:=hf2.mono (show w.heap.size≤w'.heap.size by omega);have hfw:=hu2.mono (show w.heap.size≤w'.heap.size by omega)
     obtain⟨HS2,HT2,HF2,HU2,HB5,HG5,HG6,HG7,HG8,KA,KB,KC⟩:=Zq12 hs2 ht2 hf2 hu2 hb5 hg5 hg6 hg7 hg8 kA kB kC;clear hs2 ht2 hf2 hu2 hb5 hg5 hg6 hg7 hg8 kA kB kC
     obtain⟨HBR5,HBR7,HZ8,KD,HBF,FZ,HSH,HSB,HSW,HFH,HFB,HFW⟩:=Zq12 hbr5 hbr7 hz8 kD hbf fz hsh hsb hsw hfh hfb hfw;clear hbr5 hbr7 hz8 kD hbf fz hsh hsb hsw hfh hfb hfw
     go_wp2_with (first
      | (refine wpList_load_row (by rfl) 42 _ (by rfl) g (by rfl) 42 #[.bool false,.slice A1 l1 c1,.bool true,.int .i64 r.bound,.slice A2 l2 c2,.slice D2 k2 p2] (0,0) _ HG8.out Tryz.underlying42 rfl info_rule ?_)
      | (refine wpList_store_row (by rfl) 42 _ _ (by rfl) (w.heap.size+1+1) #[.bool false,.slice A1 l1 c1,.bool true,.int .i64 r.bound,.slice A2 l2 c2,.slice D2 k2 p2] (by rfl) (by rfl) 42 _ HZ8.out info_rule (by rfl) (by simp[Value.oneCell']) ?_))
     refine bodyPost_ret (results_row_tmp rfl _ _ (w.heap.size+1+1) 42 #[.bool false,.slice A1 l1 c1,.bool true,.int .i64 r.bound,.slice A2 l2 c2,.slice D2 k2 p2] _ (.int .i64 0) rfl rfl FZ.out Tryz.underlying42 rfl info_rule) rfl ?_;rw[HNR.out]
     exact⟨A1,l1,c1,A2,l2,c2,D2,k2,p2,rfl,⟨HSH.out,HRB.out,HSB.out,HSW.out⟩,HFH.out,HFB.out,HFW.out,HBF.out⟩
theorem norm_any (r:GRule)(hA:OA)(hl hc:Nat)(bA:OA)(bl bc:Nat)(wA:OA)(wl wc:Nat)(n:Int)(w:World)(hr:RuleIn w r hA hl hc bA bl bc wA wl wc)(hp:PreRule r n):
  Calls Tryz.prog 69 #[.agg #[.bool r.choice,.slice hA hl hc,.bool r.sum,.int .i64 r.bound,.slice bA bl bc,.slice wA wl wc],.int .i64 n] w fun e w'=>∃(hA':OA) (hl' hc':Nat) (bA':OA) (bl' bc':Nat) (wA':OA) (wl' wc':Nat),e=.returned (.tuple #[ruleV (normR r) (.slice hA' hl' hc') (.slice bA' bl' bc') (.slice wA' wl' wc'),.int .i64 0]) ∧
   RuleIn w' (normR r) hA' hl' hc' bA' bl' bc' wA' wl' wc'∧Frs w.heap.size hA' hl'∧Frs w.heap.size bA' bl'∧Frs w.heap.size wA' wl'∧Below w.heap.size w w':=by
 cases hs:r.sum with
 |true=>have h1:=normS_any r _ _ _ _ _ _ _ _ _ n r.choice w hr hp hs rfl;rw[hs]at h1;exact h1
 |false=>have h1:=normP_any r _ _ _ _ _ _ _ _ _ n r.choice w hr hp hs rfl;rw[hs]at h1;exact h1

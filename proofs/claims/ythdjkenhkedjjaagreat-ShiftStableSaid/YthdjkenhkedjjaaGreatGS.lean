/- GS -/
import Derived.Test.YthdjkenhkedjjaaGreatG6
set_option maxRecDepth 100000
set_option maxHeartbeats 1000000
namespace Go.Proofs.YthdjkenhkedjjaaGreat
open Go.RowKit
structure ElTy {α:Type}(R:Rep α)(t e:TypeId)(z:Value)(bytes:Nat):Prop where
 und:Tryz.prog.underlying t=some (.slice e)
 info:(Tryz.prog.info? e).map (fun i=>(i.zero,i.size,i.bytes))=some (some z,R.size,bytes)
 zs:z.cells.size=R.size
 small:bytes≤128
section
variable {α : Type} {R : Rep α} {e : TypeId} {w0 W : World} {B : Nat} {v : Value} {xs : List α}
def OwnB (R:Rep α)(e:TypeId)(w0:World)(B:Nat)(W:World)(v:Value)(xs:List α):Prop:=
 (Below w0.heap.size w0 W∧w0.heap.size≤B∧B≤W.heap.size)∧∃cs,W.ownsRow B e R.size v xs.length cs∧∀i x,xs[i]? = some x→R.is w0 ((cs.drop (i*R.size)).take R.size) x
theorem OwnB.below (h:OwnB R e w0 B W v xs):Below w0.heap.size w0 W:=h.1.1
theorem OwnB.lt (h:OwnB R e w0 B W v xs){k:Nat}(hk:v.ownBlock=some k):B≤k∧k<W.heap.size:=by
 obtain⟨_,cs,h2,_⟩:=h;exact h2.lt k hk
theorem OwnB.nil (hb:Below w0.heap.size w0 W)(h1:w0.heap.size≤B)(h2:B≤W.heap.size):OwnB R e w0 B W (.slice none 0 0) ([]:List α):=⟨⟨hb,h1,h2⟩,[],World.ownsRow_nil W _ _ _,fun i x h=>by simp at h⟩
theorem OwnB.empty (hb:Below w0.heap.size w0 W)(h1:w0.heap.size≤B)(h2:B≤W.heap.size){g:Nat}(hg:W.heap.size=g):OwnB R e w0 B (W.alloc (.cells #[] e)) (.slice (some ⟨g,0,none⟩) 0 0) ([]:List α):=by
 subst hg
 have h:(W.alloc (.cells #[] e)).ownsRow W.heap.size e R.size (.slice (some ⟨W.heap.size,0,none⟩) 0 0) 0 []:=by
  exact World.ownsRow_made W #[] 0 (Nat.le_refl _) (by simp[maxLen]) (by simp)
 refine⟨⟨hb.alloc hb.size _,h1,by simp;omega⟩,[],⟨h.1,?_⟩,fun i x hx=>by simp at hx⟩
 rcases h.2 with h3 | ⟨g,cap,cur,a,b,c,d⟩
 ·exact .inl h3
 ·exact .inr ⟨g,cap,cur,a,Nat.le_trans h2 b,c,d⟩
theorem OwnB.bel {W':World}(h:OwnB R e w0 B W v xs)(hb:Below W.heap.size W W'):OwnB R e w0 B W' v xs:=by
 obtain⟨⟨h1,h4,h5⟩,cs,h2,h3⟩:=h
 exact⟨⟨bel_trans h1 hb,h4,Nat.le_trans h5 hb.size⟩,cs,h2.kept (grown_of_bel hb none) (by cases hv:v.ownBlock with | none=>exact .inl rfl | some k=>exact .inr (by simp)),h3⟩
theorem OwnB.kept {W':World}{S:LN}(h:OwnB R e w0 B W v xs)(hk:Kept S W W')(hS:∀k∈S,w0.heap.size≤k∧v.ownBlock≠some k):OwnB R e w0 B W' v xs:=by
 obtain⟨⟨h1,h4,h5⟩,cs,h2,h3⟩:=h
 exact⟨⟨Kept.below h1 hk h1.size (fun q hq=>(hS q hq).1),h4,Nat.le_trans h5 hk.size⟩,cs,ownsRow_keptS h2 hk (fun k hv hm=>(hS k hm).2 hv),h3⟩
theorem OwnB.set (h:OwnB R e w0 B W v xs){p:Addr}(h1:w0.heap.size≤p.block)(h2:p.block<B)(u:Value):OwnB R e w0 B (W.setCell p u) v xs:=
 h.kept ((Kept.refl [p.block] W).set (.inl (by simp)) u) (fun k hk=>by
  simp at hk;subst hk
  exact⟨h1,fun e=>by have:=(h.lt e).1;omega⟩)
theorem OwnB.sl (h:OwnB R e w0 B W v xs)(hs:xs.length≤17592186044416):∃A c,v=.slice A xs.length c∧SlIs R W A xs.length c xs:=by
 obtain⟨⟨h1,_⟩,cs,h2,h3⟩:=h
 exact SlIs.of_own h2 rfl hs (fun i x hx=>R.ext (h3 i x hx) h1)
theorem flat_cells {w:World}{ad:Addr}:∀(ys:List α)(o:Nat),(∀i x,ys[i]? = some x→∃cs,R.is w cs x∧∀j u,cs[j]? = some u→w.cell? (ad.add (o+(i*R.size+j)))=some u) →
  ∃news:List Value,news.length=ys.length*R.size∧(∀j u,news[j]? = some u→w.cell? (ad.add (o+j))=some u)∧(∀u∈news,u.oneCell'=true)∧∀i x,ys[i]? = some x→R.is w ((news.drop (i*R.size)).take R.size) x
 |[],o,_=>⟨[],by simp,by simp,by simp,by simp⟩
 |y::r,o,h=>by
  obtain⟨c0,h1,h2⟩:=h 0 y rfl
  obtain⟨news,n1,n2,n3,n4⟩:=flat_cells r (o+R.size) (fun i x hx=>by
   obtain⟨cs,a,b⟩:=h (i+1) x (by simpa using hx)
   refine⟨cs,a,fun j u hu=>?_⟩
   have:=b j u hu
   rw[show o+R.size+(i*R.size+j)=o+((i+1)*R.size+j) from by rw[Nat.add_mul];omega];exact this)
  have hl:=R.len h1
  refine⟨c0++news,by rw[List.length_append,hl,n1,List.length_cons,Nat.add_mul];omega,fun j u hu=>?_,fun u hu=>?_,fun i x hx=>?_⟩
  ·rcases Nat.lt_or_ge j c0.length with hj | hj
   ·rw[List.getElem?_append_left hj]at hu
    have:=h2 j u hu
    simpa using this
   ·rw[List.getElem?_append_right hj]at hu
    have:=n2 _ u hu
    rw[show o+R.size+(j-c0.length)=o+j from by omega]at this;exact this
  ·rcases List.mem_append.1 hu with hu | hu
   ·exact R.one h1 u hu
   ·exact n3 u hu
  ·match i,hx with
   |0,hx=>simp at hx;subst hx;rw[Nat.zero_mul,List.drop_zero,List.take_append_of_le_length (by omega),List.take_of_length_le (by omega)];exact h1
   |i+1,hx=>
    have:=n4 i x (by simpa using hx)
    rw[show (i+1)*R.size=R.size+i*R.size from by rw[Nat.add_mul];omega,← List.drop_drop,show (c0++news).drop R.size=news from by rw[← hl,List.drop_left]];exact this
theorem OwnB.appN {t:TypeId}{z:Value}{bytes:Nat}(ht:ElTy R t e z bytes)(h:OwnB R e w0 B W v xs)(ad:Addr)(m c:Nat)(news:List Value)(ys:List α)(hm:m=ys.length)(hl:news.length=m*R.size)(hn:∀j u,news[j]? = some u→W.cell? (ad.add j)=some u)(h1:∀u∈news,u.oneCell'=true)
  (hr:∀i x,ys[i]? = some x→R.is w0 ((news.drop (i*R.size)).take R.size) x) (hs:xs.length+m≤1099511627776) (ty:TypeId):
  ∃v' w',(Builtin.append_ #[t,t] ty #[v,.slice (some ad) m c]).run Tryz.prog W=.ok v' w'∧OwnB R e w0 B w' v' (xs++ys)∧W.grownBy w' v.ownBlock∧(∀k,v'.ownBlock=some k→v.ownBlock=some k∨W.heap.size≤k):=by
 obtain⟨⟨hb,h4,h5⟩,cs,h2,h3⟩:=h
 obtain⟨i0,hi0,hz0,hz1,hz2⟩:=info_parts ht.info
 have hcl:cs.length=xs.length*R.size:=h2.1;have hby:(xs.length+m)*bytes≤140737488355328:=Nat.le_trans (Nat.mul_le_mul hs ht.small) (by omega)
 obtain⟨v',w',hrun,k2,k3,_,k5⟩:=run_append_own_at (P:=Tryz.prog) W B t ty e i0 _ R.size bytes ht.und hi0 hz0 hz1 hz2 ht.zs R.pos v xs.length cs h2 ad m c news hl hn h1 (by unfold maxLen;omega) hby h5
 refine⟨v',w',hrun,⟨⟨bel_grown hb k3 hb.size (fun q hq=>Nat.le_trans h4 (h2.lt q hq).1),h4,Nat.le_trans h5 k3.size⟩,cs++news,by rw[List.length_append,← hm];exact k2,fun i x hx=>?_⟩,k3,fun k hk=>?_⟩
 ·rcases Nat.lt_or_ge i xs.length with hi | hi
  ·rw[List.getElem?_append_left hi]at hx;have hle:(i+1)*R.size≤xs.length*R.size:=Nat.mul_le_mul_right _ hi;rw[Nat.add_mul]at hle;rw[List.drop_append_of_le_length (by omega),List.take_append_of_le_length (by rw[List.length_drop];omega)];exact h3 i x hx
  ·rw[List.getElem?_append_right hi]at hx
   have:=hr _ x hx
   have hle:xs.length*R.size≤i*R.size:=Nat.mul_le_mul_right _ hi;rw[List.drop_append,List.drop_of_length_le (by omega),List.nil_append,hcl,← Nat.sub_mul];exact this
 ·rcases k5 with k5 | k5 <;> rw[k5]at hk
  ·exact .inl hk
  ·simp at hk;exact .inr (by omega)
theorem OwnB.appS {t:TypeId}{z:Value}{bytes:Nat}(ht:ElTy R t e z bytes)(h:OwnB R e w0 B W v xs){A:OA}{m c:Nat}{ys:List α}(hy:SlIs R w0 A m c ys)(hs:xs.length+m≤1099511627776)(ty:TypeId):
  ∃v' w',(Builtin.append_ #[t,t] ty #[v,.slice A m c]).run Tryz.prog W=.ok v' w'∧OwnB R e w0 B w' v' (xs++ys)∧W.grownBy w' v.ownBlock∧(∀k,v'.ownBlock=some k→v.ownBlock=some k∨W.heap.size≤k):=by
 rcases A with _ | ad
 ·have h0:m=0:=by
   rcases Nat.eq_zero_or_pos m with h0 | h0
   ·exact h0
   ·obtain⟨ad,he,_⟩:=hy.2.2.2 h0;cases he
  subst h0;have hys:ys=[]:=List.eq_nil_of_length_eq_zero hy.len.symm;subst hys
  obtain⟨i0,hi0,hz0,hz1,hz2⟩:=info_parts ht.info
  refine⟨v,W,?_,by simpa using h,grown_refl _ _,fun k hk=>.inl hk⟩
  obtain⟨_,cs,h2,_⟩:=h
  rcases h2.2 with⟨rfl,_⟩ | ⟨g,cap,cur,rfl,_,_,hnc,_⟩
  ·simp[Builtin.append_,run_underlying (P:=Tryz.prog) ht.und,sizeOf,typeInfo,hi0,Builtin.lenOf,Builtin.firstCells]
  ·simp[Builtin.append_,run_underlying (P:=Tryz.prog) ht.und,sizeOf,typeInfo,hi0,Builtin.lenOf,Builtin.firstCells,hnc,storeCells]
 ·by_cases h0:m=0
  ·subst h0;have hys:ys=[]:=List.eq_nil_of_length_eq_zero hy.len.symm;subst hys;exact h.appN ht ad 0 c [] [] rfl (by simp) (by simp) (by simp) (by simp) hs ty
  ·obtain⟨ad',he,hlt,hc⟩:=hy.2.2.2 (by omega)
   cases he
   obtain⟨news,n1,n2,n3,n4⟩:=flat_cells (R:=R) (w:=w0) (ad:=ad) ys 0 (fun i x hx=>by simpa using hc i x hx)
   refine h.appN ht ad m c news ys hy.len (by rw[n1,hy.len]) (fun j u hu=>?_) n3 n4 hs ty
   have:=n2 j u hu
   rw[Nat.zero_add]at this
   exact(h.below.cell (World.block_lt_of_cell? _ _ this)).trans this
theorem OwnB.app1 {t:TypeId}{z:Value}{bytes:Nat}(ht:ElTy R t e z bytes)(h:OwnB R e w0 B W v xs)(c0:List Value)(x:α)(hx:R.is w0 c0 x)(hs:xs.length<1099511627776)(ty:TypeId):
  ∃v' w',(Builtin.append_ #[t,t] ty #[v,.slice (some ⟨W.heap.size,0,none⟩) 1 1]).run Tryz.prog (W.alloc (.cells c0.toArray e))=.ok v' w'∧OwnB R e w0 B w' v' (xs++[x])∧W.grownBy w' v.ownBlock∧(∀k,v'.ownBlock=some k→v.ownBlock=some k∨W.heap.size≤k):=by
 have hl:=R.len hx
 obtain⟨v',w',hrun,h1,h2,h3⟩:=(h.bel (bel_alloc W (.cells c0.toArray e))).appN ht ⟨W.heap.size,0,none⟩ 1 1 c0 [x] rfl (by omega)
  (fun j u hu=>by rw[add_none,Nat.zero_add,(Blk.new W e c0.toArray).cell];simpa using hu) (R.one hx)
  (fun i y hy=>by
   match i,hy with
   |0,hy=>simp at hy;subst hy;rw[Nat.zero_mul,List.drop_zero,List.take_of_length_le (by omega)];exact hx
   |i+1,hy=>simp at hy) (by omega) ty
 refine⟨v',w',hrun,h1,⟨h2.os,h2.tape,h2.output,Nat.le_trans (by simp) h2.size,fun k hk hne=>?_⟩,fun k hk=>?_⟩
 ·rw[h2.block k (by simp;omega) hne];exact Below.heap_alloc W _ k hk
 ·rcases h3 k hk with h5 | h5
  ·exact .inl h5
  ·simp at h5;exact .inr (by omega)
theorem grown_kept {w w':World}{v:Value}(hg:w.grownBy w' v.ownBlock):Kept v.ownBlock.toList w w':=(Kept.refl _ w).grown hg (fun q hq=>.inl (by simp[hq]))
end
theorem ety_int:ElTy intR 23 3 (.int .i64 0) 8:=⟨Tryz.underlying23,by kernel_rfl,rfl,by omega⟩
theorem ety_rule:ElTy ruleR 24 42 (.agg #[.bool false,.slice none 0 0,.bool false,.int .i64 0,.slice none 0 0,.slice none 0 0]) 96:=⟨Tryz.underlying24,by kernel_rfl,rfl,by omega⟩
open Go.RowKit
theorem ety_str:ElTy strR 22 9 (.string ByteArray.empty) 16:=⟨Tryz.underlying22,by kernel_rfl,rfl,by omega⟩
theorem ety_min:ElTy minR 25 67 (.agg #[.int .i64 0,.slice none 0 0,.slice none 0 0]) 56:=⟨Tryz.underlying25,by kernel_rfl,rfl,by omega⟩
theorem SlIs.none0 {α:Type}{R:Rep α}{w:World}{l c:Nat}{xs:List α}(h:SlIs R w none l c xs):l=0∧xs=[]:=by
 have h0:l=0:=by
  rcases Nat.eq_zero_or_pos l with h0 | h0
  ·exact h0
  ·obtain⟨ad,he,_⟩:=h.2.2.2 h0;cases he
 exact⟨h0,List.eq_nil_of_length_eq_zero (by have:=h.len;omega)⟩
theorem cloneI_own (lA:OA)(ll lc:Nat)(xs:LI)(w0 w:World)(h:SlIs intR w0 lA ll lc xs)(hb:Below w0.heap.size w0 w)(hl9:ll≤1000000):
  Calls Tryz.prog 52 #[.slice lA ll lc] w fun e w'=>∃A l c,e=.returned (.slice A l c)∧OwnB intR 3 w0 w.heap.size w' (.slice A l c) xs∧l=xs.length∧Below w.heap.size w w':=by
 have hl:=h.cap;have hm:=h.max;have hnil:=fun W=>Lib.run_eql_slice_nil (P:=Tryz.prog) W 23 3 lA ll lc 0 0 Tryz.underlying23
 cases hA:lA with
 |none=>
  subst hA
  obtain⟨rfl,rfl⟩:=h.none0
  obtain⟨H,HB⟩:=Zq2 h hb;clear h hb
  go_enter Tryz.func52,Tryz.ntmps52;go_wp2_with fail;refine bodyPost_ret (results_tmp rfl _ _ _) rfl ?_
  exact⟨none,0,0,rfl,OwnB.nil HB.out HB.out.size (Nat.le_refl _),rfl,Below.refl _ _⟩
 |some ad=>
  subst hA;have O0:OwnB intR 3 w0 w.heap.size (w.alloc (.cells #[] 3)) (.slice (some ⟨w.heap.size,0,none⟩) 0 0) ([]:LI):=OwnB.empty hb hb.size (Nat.le_refl _) rfl
  obtain⟨v1,w3,hrun1,own1,hg1,-⟩:=O0.appS ety_int h (by simp;omega) 23
  have hb3:Below w.heap.size w w3:=bel_grown (bel_alloc _ _) hg1 (by simp) (fun k hk=>by simp[Value.ownBlock]at hk;omega);rw[List.nil_append]at own1
  obtain⟨A',c',hv,-⟩:=own1.sl (by have:=h.len;omega)
  subst hv
  obtain⟨H,HB,O0,OWN1,HG1,HB3,HRUN1⟩:=Zq7 h hb O0 own1 hg1 hb3 hrun1;clear h hb O0 own1 hg1 hb3 hrun1
  go_enter Tryz.func52,Tryz.ntmps52;go_wp2_with (at_builtin;refine wpList_append_run rfl _ _ _ rfl _ _ rfl rfl _ _ HRUN1.out ?_);refine bodyPost_ret (results_tmp rfl _ _ _) rfl ?_
  exact⟨A',_,c',rfl,OWN1.out,rfl,HB3.out⟩
theorem cloneS_own (lA:OA)(ll lc:Nat)(xs:List ByteArray)(w0 w:World)(h:SlIs strR w0 lA ll lc xs)(hb:Below w0.heap.size w0 w)(hl9:ll≤1000000):
  Calls Tryz.prog 108 #[.slice lA ll lc] w fun e w'=>∃A l c,e=.returned (.slice A l c)∧OwnB strR 9 w0 w.heap.size w' (.slice A l c) xs∧l=xs.length∧Below w.heap.size w w':=by
 have hl:=h.cap;have hm:=h.max;have hnil:=fun W=>Lib.run_eql_slice_nil (P:=Tryz.prog) W 22 9 lA ll lc 0 0 Tryz.underlying22
 cases hA:lA with
 |none=>
  subst hA
  obtain⟨rfl,rfl⟩:=h.none0
  obtain⟨H,HB⟩:=Zq2 h hb;clear h hb
  go_enter Tryz.func108,Tryz.ntmps108;go_wp2_with fail;refine bodyPost_ret (results_tmp rfl _ _ _) rfl ?_
  exact⟨none,0,0,rfl,OwnB.nil HB.out HB.out.size (Nat.le_refl _),rfl,Below.refl _ _⟩
 |some ad=>
  subst hA;have O0:OwnB strR 9 w0 w.heap.size (w.alloc (.cells #[] 9)) (.slice (some ⟨w.heap.size,0,none⟩) 0 0) ([]:List ByteArray):=OwnB.empty hb hb.size (Nat.le_refl _) rfl
  obtain⟨v1,w3,hrun1,own1,hg1,-⟩:=O0.appS ety_str h (by simp;omega) 22
  have hb3:Below w.heap.size w w3:=bel_grown (bel_alloc _ _) hg1 (by simp) (fun k hk=>by simp[Value.ownBlock]at hk;omega);rw[List.nil_append]at own1
  obtain⟨A',c',hv,-⟩:=own1.sl (by have:=h.len;omega)
  subst hv
  obtain⟨H,HB,O0,OWN1,HG1,HB3,HRUN1⟩:=Zq7 h hb O0 own1 hg1 hb3 hrun1;clear h hb O0 own1 hg1 hb3 hrun1
  go_enter Tryz.func108,Tryz.ntmps108;go_wp2_with (at_builtin;refine wpList_append_run rfl _ _ _ rfl _ _ rfl rfl _ _ HRUN1.out ?_);refine bodyPost_ret (results_tmp rfl _ _ _) rfl ?_
  exact⟨A',_,c',rfl,OWN1.out,rfl,HB3.out⟩
theorem cloneR_own (lA:OA)(ll lc:Nat)(xs:LG)(w0 w:World)(h:SlIs ruleR w0 lA ll lc xs)(hb:Below w0.heap.size w0 w)(hl9:ll≤1000000):
  Calls Tryz.prog 109 #[.slice lA ll lc] w fun e w'=>∃A l c,e=.returned (.slice A l c)∧OwnB ruleR 42 w0 w.heap.size w' (.slice A l c) xs∧l=xs.length∧Below w.heap.size w w':=by
 have hl:=h.cap;have hm:=h.max;have hnil:=fun W=>Lib.run_eql_slice_nil (P:=Tryz.prog) W 24 42 lA ll lc 0 0 Tryz.underlying24
 cases hA:lA with
 |none=>
  subst hA
  obtain⟨rfl,rfl⟩:=h.none0
  obtain⟨H,HB⟩:=Zq2 h hb;clear h hb
  go_enter Tryz.func109,Tryz.ntmps109;go_wp2_with fail;refine bodyPost_ret (results_tmp rfl _ _ _) rfl ?_
  exact⟨none,0,0,rfl,OwnB.nil HB.out HB.out.size (Nat.le_refl _),rfl,Below.refl _ _⟩
 |some ad=>
  subst hA;have O0:OwnB ruleR 42 w0 w.heap.size (w.alloc (.cells #[] 42)) (.slice (some ⟨w.heap.size,0,none⟩) 0 0) ([]:LG):=OwnB.empty hb hb.size (Nat.le_refl _) rfl
  obtain⟨v1,w3,hrun1,own1,hg1,-⟩:=O0.appS ety_rule h (by simp;omega) 24
  have hb3:Below w.heap.size w w3:=bel_grown (bel_alloc _ _) hg1 (by simp) (fun k hk=>by simp[Value.ownBlock]at hk;omega);rw[List.nil_append]at own1
  obtain⟨A',c',hv,-⟩:=own1.sl (by have:=h.len;omega)
  subst hv
  obtain⟨H,HB,O0,OWN1,HG1,HB3,HRUN1⟩:=Zq7 h hb O0 own1 hg1 hb3 hrun1;clear h hb O0 own1 hg1 hb3 hrun1
  go_enter Tryz.func109,Tryz.ntmps109;go_wp2_with (at_builtin;refine wpList_append_run rfl _ _ _ rfl _ _ rfl rfl _ _ HRUN1.out ?_);refine bodyPost_ret (results_tmp rfl _ _ _) rfl ?_
  exact⟨A',_,c',rfl,OWN1.out,rfl,HB3.out⟩
theorem cloneM_own (lA:OA)(ll lc:Nat)(xs:List GMin)(w0 w:World)(h:SlIs minR w0 lA ll lc xs)(hb:Below w0.heap.size w0 w)(hl9:ll≤1000000):
  Calls Tryz.prog 110 #[.slice lA ll lc] w fun e w'=>∃A l c,e=.returned (.slice A l c)∧OwnB minR 67 w0 w.heap.size w' (.slice A l c) xs∧l=xs.length∧Below w.heap.size w w':=by
 have hl:=h.cap;have hm:=h.max;have hnil:=fun W=>Lib.run_eql_slice_nil (P:=Tryz.prog) W 25 67 lA ll lc 0 0 Tryz.underlying25
 cases hA:lA with
 |none=>
  subst hA
  obtain⟨rfl,rfl⟩:=h.none0
  obtain⟨H,HB⟩:=Zq2 h hb;clear h hb
  go_enter Tryz.func110,Tryz.ntmps110;go_wp2_with fail;refine bodyPost_ret (results_tmp rfl _ _ _) rfl ?_
  exact⟨none,0,0,rfl,OwnB.nil HB.out HB.out.size (Nat.le_refl _),rfl,Below.refl _ _⟩
 |some ad=>
  subst hA;have O0:OwnB minR 67 w0 w.heap.size (w.alloc (.cells #[] 67)) (.slice (some ⟨w.heap.size,0,none⟩) 0 0) ([]:List GMin):=OwnB.empty hb hb.size (Nat.le_refl _) rfl
  obtain⟨v1,w3,hrun1,own1,hg1,-⟩:=O0.appS ety_min h (by simp;omega) 25
  have hb3:Below w.heap.size w w3:=bel_grown (bel_alloc _ _) hg1 (by simp) (fun k hk=>by simp[Value.ownBlock]at hk;omega);rw[List.nil_append]at own1
  obtain⟨A',c',hv,-⟩:=own1.sl (by have:=h.len;omega)
  subst hv
  obtain⟨H,HB,O0,OWN1,HG1,HB3,HRUN1⟩:=Zq7 h hb O0 own1 hg1 hb3 hrun1;clear h hb O0 own1 hg1 hb3 hrun1
  go_enter Tryz.func110,Tryz.ntmps110;go_wp2_with (at_builtin;refine wpList_append_run rfl _ _ _ rfl _ _ rfl rfl _ _ HRUN1.out ?_);refine bodyPost_ret (results_tmp rfl _ _ _) rfl ?_
  exact⟨A',_,c',rfl,OWN1.out,rfl,HB3.out⟩
open Go.RowKit
theorem Kept.thn {S T:LN}{w a b:World}(h:Kept S w a)(k:Kept T a b)(hT:∀q∈T,q∈S∨w.heap.size≤q):Kept S w b:=
 ⟨k.os.trans h.os,k.tape.trans h.tape,k.output.trans h.output,Nat.le_trans h.size k.size,fun i hi hs=>(k.block i (Nat.lt_of_lt_of_le hi h.size) (fun e=>by
  rcases hT i e with h1 | h1
  ·exact hs h1
  ·omega)).trans (h.block i hi hs)⟩
theorem Kept.bel0 {w a:World}(h:Kept [] w a):Below w.heap.size w a:=⟨h.os,h.tape,h.output,h.size,fun k hk=>h.block k hk (by simp)⟩
section
variable {α : Type} {R : Rep α} {e : TypeId} {w0 W : World} {S : LN} {B : Nat} {v : Value} {xs : List α}
def Stab (R:Rep α)(S:LN)(w0:World)(c:List Value)(x:α):Prop:=∀W,Kept S w0 W→R.is W c x
theorem Stab.now {c:List Value}{x:α}(h:Stab R S w0 c x):R.is w0 c x:=h w0 (Kept.refl _ _)
theorem Stab.go {c:List Value}{x:α}(h:Stab R S w0 c x){T:LN}(hk:Kept S w0 W)(hT:∀k∈T,k∈S∨w0.heap.size≤k):Stab R T W c x:=fun V hV=>h V (hk.thn hV hT)
theorem Stab.of {c:List Value}{x:α}(h:R.is w0 c x):Stab R [] w0 c x:=fun _ hk=>R.ext h hk.bel0
def StabS (R:Rep α)(S:LN)(w0:World)(A:OA)(l c:Nat)(xs:List α):Prop:=∀W,Kept S w0 W→SlIs R W A l c xs
theorem StabS.ints {A:OA}{l c:Nat}{xs:LI}(h:SlIs intR w0 A l c xs)(ho:Off S A l):StabS intR S w0 A l c xs:=fun _ hk=>h.keptM hk ho
theorem Stab.rule {r:GRule}{hA bA wA:OA}{hl hc bl bc wl wc:Nat}(h1:StabS intR S w0 hA hl hc r.head)(h2:I64 r.bound)(h3:StabS intR S w0 bA bl bc r.body)(h4:StabS intR S w0 wA wl wc r.w):
  Stab ruleR S w0 [.bool r.choice,.slice hA hl hc,.bool r.sum,.int .i64 r.bound,.slice bA bl bc,.slice wA wl wc] r:=fun V hV=>⟨_,_,_,rfl,⟨_,_,_,rfl,h1 V hV⟩,h2,⟨_,_,_,rfl,h3 V hV⟩,⟨_,_,_,rfl,h4 V hV⟩⟩
def RowK (R:Rep α)(e:TypeId)(w0:World)(S:LN)(B:Nat)(W:World)(v:Value)(xs:List α):Prop:=
 (Kept S w0 W∧B≤W.heap.size∧∀k,v.ownBlock=some k→k∈S∨w0.heap.size≤k)∧∃cs,W.ownsRow B e R.size v xs.length cs∧∀i x,xs[i]? = some x→Stab R S w0 ((cs.drop (i*R.size)).take R.size) x
theorem RowK.lt (h:RowK R e w0 S B W v xs){k:Nat}(hk:v.ownBlock=some k):B≤k∧k<W.heap.size:=by
 obtain⟨_,cs,h2,_⟩:=h;exact h2.lt k hk
theorem OwnB.row (h:OwnB R e w0 B W v xs):RowK R e w0 [] B W v xs:=by
 obtain⟨⟨h1,h4,h5⟩,cs,h2,h3⟩:=h
 exact⟨⟨Kept.of_below h1 _,h5,fun k hk=>.inr (Nat.le_trans h4 (h2.lt k hk).1)⟩,cs,h2,fun i x hx=>Stab.of (h3 i x hx)⟩
theorem RowK.now (h:RowK R e w0 S B W v xs){T:LN}(hT:∀k∈T,k∈S∨w0.heap.size≤k)(hv:∀k,v.ownBlock=some k→k∈T):RowK R e W T B W v xs:=by
 obtain⟨⟨h1,h4,h5⟩,cs,h2,h3⟩:=h
 exact⟨⟨Kept.refl _ _,h4,fun k hk=>.inl (hv k hk)⟩,cs,h2,fun i x hx=>(h3 i x hx).go h1 hT⟩
theorem RowK.kept {W':World}{T:LN}(h:RowK R e w0 S B W v xs)(hk:Kept T W W')(hT:∀k∈T,(k∈S∨w0.heap.size≤k)∧v.ownBlock≠some k):RowK R e w0 S B W' v xs:=by
 obtain⟨⟨h1,h4,h5⟩,cs,h2,h3⟩:=h
 exact⟨⟨h1.thn hk (fun q hq=>(hT q hq).1),Nat.le_trans h4 hk.size,h5⟩,cs,ownsRow_keptS h2 hk (fun k hv hm=>(hT k hm).2 hv),h3⟩
theorem RowK.bel {W':World}(h:RowK R e w0 S B W v xs)(hb:Below W.heap.size W W'):RowK R e w0 S B W' v xs:=h.kept (Kept.of_below hb []) (by simp)
theorem RowK.sl (h:RowK R e w0 S B W v xs)(hs:xs.length≤17592186044416):∃A c,v=.slice A xs.length c∧SlIs R W A xs.length c xs:=by
 obtain⟨⟨h1,_⟩,cs,h2,h3⟩:=h
 exact SlIs.of_own h2 rfl hs (fun i x hx=>h3 i x hx W h1)
theorem RowK.stab (h:RowK R e w0 S B W v xs)(hs:xs.length≤17592186044416){T:LN}(hT:∀k∈T,k∈S∨w0.heap.size≤k)(hv:∀k,v.ownBlock=some k→k∉T):∃A c,v=.slice A xs.length c∧StabS R T W A xs.length c xs:=by
 obtain⟨A,c,hve,_⟩:=h.sl hs
 refine⟨A,c,hve,fun V hV=>?_⟩
 have hT':∀k∈T,(k∈S∨w0.heap.size≤k)∧v.ownBlock≠some k:=fun k hk=>⟨hT k hk,fun e=>hv k e hk⟩
 obtain⟨A',c',e2,h3⟩:=(h.kept hV hT').sl hs
 rw[hve]at e2;injection e2 with e2 e3 e4;subst e2 e4;exact h3
theorem RowK.appN {t:TypeId}{z:Value}{bytes:Nat}(ht:ElTy R t e z bytes)(h:RowK R e w0 S B W v xs)(ad:Addr)(m c:Nat)(news:List Value)(ys:List α)(hm:m=ys.length)(hl:news.length=m*R.size)(hn:∀j u,news[j]? = some u→W.cell? (ad.add j)=some u)(h1:∀u∈news,u.oneCell'=true)
  (hr:∀i x,ys[i]? = some x→Stab R S w0 ((news.drop (i*R.size)).take R.size) x) (hs:xs.length+m≤1099511627776) (ty:TypeId):
  ∃v' w',(Builtin.append_ #[t,t] ty #[v,.slice (some ad) m c]).run Tryz.prog W=.ok v' w'∧RowK R e w0 S B w' v' (xs++ys)∧W.grownBy w' v.ownBlock∧(∀k,v'.ownBlock=some k→v.ownBlock=some k∨W.heap.size≤k):=by
 obtain⟨⟨hb,h4,h5⟩,cs,h2,h3⟩:=h
 obtain⟨i0,hi0,hz0,hz1,hz2⟩:=info_parts ht.info
 have hcl:cs.length=xs.length*R.size:=h2.1;have hby:(xs.length+m)*bytes≤140737488355328:=Nat.le_trans (Nat.mul_le_mul hs ht.small) (by omega)
 obtain⟨v',w',hrun,k2,k3,_,k5⟩:=run_append_own_at (P:=Tryz.prog) W B t ty e i0 _ R.size bytes ht.und hi0 hz0 hz1 hz2 ht.zs R.pos v xs.length cs h2 ad m c news hl hn h1 (by unfold maxLen;omega) hby h4
 have hat:∀k,v'.ownBlock=some k→v.ownBlock=some k∨W.heap.size≤k:=fun k hk=>by
  rcases k5 with k5 | k5 <;> rw[k5]at hk
  ·exact .inl hk
  ·simp at hk;exact .inr (by omega)
 have hk1:Kept S w0 w':=hb.thn (grown_kept k3) (fun q hq=>h5 q (by simpa using hq))
 refine⟨v',w',hrun,⟨⟨hk1,Nat.le_trans h4 k3.size,fun k hk=>?_⟩,cs++news,by rw[List.length_append,← hm];exact k2,fun i x hx=>?_⟩,k3,hat⟩
 ·rcases hat k hk with h6 | h6
  ·exact h5 k h6
  ·exact .inr (Nat.le_trans hb.size h6)
 ·rcases Nat.lt_or_ge i xs.length with hi | hi
  ·rw[List.getElem?_append_left hi]at hx;have hle:(i+1)*R.size≤xs.length*R.size:=Nat.mul_le_mul_right _ hi;rw[Nat.add_mul]at hle;rw[List.drop_append_of_le_length (by omega),List.take_append_of_le_length (by rw[List.length_drop];omega)];exact h3 i x hx
  ·rw[List.getElem?_append_right hi]at hx
   have:=hr _ x hx
   have hle:xs.length*R.size≤i*R.size:=Nat.mul_le_mul_right _ hi;rw[List.drop_append,List.drop_of_length_le (by omega),List.nil_append,hcl,← Nat.sub_mul];exact this
theorem RowK.app1 {t:TypeId}{z:Value}{bytes:Nat}(ht:ElTy R t e z bytes)(h:RowK R e w0 S B W v xs)(c0:List Value)(x:α)(hx:Stab R S w0 c0 x)(hs:xs.length<1099511627776)(ty:TypeId):
  ∃v' w',(Builtin.append_ #[t,t] ty #[v,.slice (some ⟨W.heap.size,0,none⟩) 1 1]).run Tryz.prog (W.alloc (.cells c0.toArray e))=.ok v' w'∧RowK R e w0 S B w' v' (xs++[x])∧W.grownBy w' v.ownBlock∧(∀k,v'.ownBlock=some k→v.ownBlock=some k∨W.heap.size≤k):=by
 have hl:=R.len hx.now
 obtain⟨v',w',hrun,h1,h2,h3⟩:=(h.bel (bel_alloc W (.cells c0.toArray e))).appN ht ⟨W.heap.size,0,none⟩ 1 1 c0 [x] rfl (by omega)
  (fun j u hu=>by rw[add_none,Nat.zero_add,(Blk.new W e c0.toArray).cell];simpa using hu) (R.one hx.now)
  (fun i y hy=>by
   match i,hy with
   |0,hy=>simp at hy;subst hy;rw[Nat.zero_mul,List.drop_zero,List.take_of_length_le (by omega)];exact hx
   |i+1,hy=>simp at hy) (by omega) ty
 refine⟨v',w',hrun,h1,⟨h2.os,h2.tape,h2.output,Nat.le_trans (by simp) h2.size,fun k hk hne=>?_⟩,fun k hk=>?_⟩
 ·rw[h2.block k (by simp;omega) hne];exact Below.heap_alloc W _ k hk
 ·rcases h3 k hk with h5 | h5
  ·exact .inl h5
  ·simp at h5;exact .inr (by omega)
theorem RowK.cellAt (h:RowK R e w0 S B W v xs){i:Nat}{x:α}(hx:xs[i]? = some x):∃g cap c,v=.slice (some ⟨g,0,none⟩) xs.length cap∧Stab R S w0 c x∧c.length=R.size∧(∀j u,c[j]? = some u→W.cell? ⟨g,i*R.size+j,none⟩=some u)∧(∀j,W.frozen? ⟨g,j,none⟩=false):=by
 obtain⟨⟨h1,h4,h5⟩,cs,h2,h3⟩:=h
 have hi:i<xs.length:=(List.getElem?_eq_some_iff.1 hx).1;rcases h2.2 with⟨_,h0⟩ | ⟨g,cap,cur,rfl,hb,hh,hlc,hcm,hcs,htk⟩
 ·omega
 ·have hcl:cs.length=xs.length*R.size:=h2.1;have hle:(i+1)*R.size≤xs.length*R.size:=Nat.mul_le_mul_right _ hi;rw[Nat.add_mul]at hle
  refine⟨g,cap,_,rfl,h3 i x hx,by rw[List.length_take,List.length_drop];omega,fun j u hu=>?_,fun j=>by simp[World.frozen?,hh]⟩
  rw[List.getElem?_take]at hu
  split at hu
  ·rw[List.getElem?_drop]at hu;have h6:=h2.cells (g:=g) rfl _ u hu;rw[add_none,Nat.zero_add]at h6;exact h6
  ·cases hu
theorem RowK.put {g n cap:Nat}(h:RowK R e w0 S B W (.slice (some ⟨g,0,none⟩) n cap) xs){i j:Nat}{x x':α}(hx:xs[i]? = some x)(hj:j<R.size)(u:Value)
  (hc:∀c,Stab R S w0 c x→c.length=R.size→Stab R S w0 (c.set j u) x'):RowK R e w0 S B (W.setCell ⟨g,i*R.size+j,none⟩ u) (.slice (some ⟨g,0,none⟩) n cap) (xs.set i x'):=by
 obtain⟨⟨h1,h4,h5⟩,cs,h2,h3⟩:=h
 have hi:i<xs.length:=(List.getElem?_eq_some_iff.1 hx).1
 have hn:n=xs.length:=by
  rcases h2.2 with⟨hv,h0⟩ | ⟨_,_,_,hv,_⟩
  ·cases hv
  ·injection hv
 subst hn;have hs:=h2.stored (i*R.size+j) u;have hcl:cs.length=xs.length*R.size:=h2.1;have hle:(i+1)*R.size≤xs.length*R.size:=Nat.mul_le_mul_right _ hi;rw[Nat.add_mul]at hle
 refine⟨⟨h1.thn (grown_kept (v:=.slice (some ⟨g,0,none⟩) xs.length cap) hs.2) (fun q hq=>h5 q (by simpa using hq)),by simpa[World.setCell]using h4,h5⟩,_,by rw[List.length_set];exact hs.1,fun k y hy=>?_⟩
 by_cases hk:k=i
 ·subst hk;rw[List.getElem?_set_self hi]at hy;simp at hy;subst hy
  have e1:((cs.set (k*R.size+j) u).drop (k*R.size)).take R.size=((cs.drop (k*R.size)).take R.size).set j u:=by
   rw[List.drop_set,if_neg (by omega),show k*R.size+j-k*R.size=j by omega,List.take_set]
  rw[e1];exact hc _ (h3 k x hx) (by rw[List.length_take,List.length_drop];omega)
 ·rw[List.getElem?_set_ne (fun e=>hk e.symm)]at hy;have hkl:k<xs.length:=(List.getElem?_eq_some_iff.1 hy).1
  have e1:((cs.set (i*R.size+j) u).drop (k*R.size)).take R.size=(cs.drop (k*R.size)).take R.size:=by
   rcases Nat.lt_or_ge k i with hlt | hge
   ·have h9:(k+1)*R.size≤i*R.size:=Nat.mul_le_mul_right _ hlt;rw[Nat.add_mul]at h9;rw[List.drop_set,if_neg (by omega),List.take_set_of_le (by omega)]
   ·have h9:(i+1)*R.size≤k*R.size:=Nat.mul_le_mul_right _ (by omega);rw[Nat.add_mul]at h9;rw[List.drop_set,if_pos (by omega)]
  rw[e1];exact h3 k y hy
end
theorem Stab.head {w0:World}{S:LN}{c:List Value}{x:GRule}{A:OA}{l k:Nat}(h:Stab ruleR S w0 c x)(hs:StabS intR S w0 A l k x.head):Stab ruleR S w0 (c.set 1 (.slice A l k)) x:=fun V hV=>by
 obtain⟨hv,bv,wv,rfl,h1,h2,h3,h4⟩:=h V hV
 exact⟨_,bv,wv,rfl,⟨_,_,_,rfl,hs V hV⟩,h2,h3,h4⟩
theorem Stab.body {w0:World}{S:LN}{c:List Value}{x:GRule}{A:OA}{l k:Nat}(h:Stab ruleR S w0 c x)(hs:StabS intR S w0 A l k x.body):Stab ruleR S w0 (c.set 4 (.slice A l k)) x:=fun V hV=>by
 obtain⟨hv,bv,wv,rfl,h1,h2,h3,h4⟩:=h V hV
 exact⟨hv,_,wv,rfl,h1,h2,⟨_,_,_,rfl,hs V hV⟩,h4⟩
theorem Stab.wt {w0:World}{S:LN}{c:List Value}{x:GRule}{A:OA}{l k:Nat}(h:Stab ruleR S w0 c x)(hs:StabS intR S w0 A l k x.w):Stab ruleR S w0 (c.set 5 (.slice A l k)) x:=fun V hV=>by
 obtain⟨hv,bv,wv,rfl,h1,h2,h3,h4⟩:=h V hV
 exact⟨hv,bv,_,rfl,h1,h2,h3,⟨_,_,_,rfl,hs V hV⟩⟩
theorem Stab.lits {w0:World}{S:LN}{c:List Value}{x:GMin}{A:OA}{l k:Nat}(h:Stab minR S w0 c x)(hs:StabS intR S w0 A l k x.lits):Stab minR S w0 (c.set 1 (.slice A l k)) x:=fun V hV=>by
 obtain⟨bv,wv,rfl,h2,h3,h4⟩:=h V hV
 exact⟨_,wv,rfl,h2,⟨_,_,_,rfl,hs V hV⟩,h4⟩
theorem Stab.mwt {w0:World}{S:LN}{c:List Value}{x:GMin}{A:OA}{l k:Nat}(h:Stab minR S w0 c x)(hs:StabS intR S w0 A l k x.w):Stab minR S w0 (c.set 2 (.slice A l k)) x:=fun V hV=>by
 obtain⟨bv,wv,rfl,h2,h3,h4⟩:=h V hV
 exact⟨bv,_,rfl,h2,h3,⟨_,_,_,rfl,hs V hV⟩⟩
theorem set_same {α:Type}{xs:List α}{i:Nat}{x:α}(h:xs[i]? = some x):xs.set i x=xs:=by
 obtain⟨hi,rfl⟩:=List.getElem?_eq_some_iff.1 h
 exact List.set_getElem_self hi
open Go.RowKit
section
variable {α : Type} {R : Rep α} {e : TypeId} {W : World} {S : LN} {B : Nat} {v : Value} {xs : List α}
def ownL (v:Value):LN:=v.ownBlock.toList
theorem ownL_mem {k:Nat}:k∈ownL v↔v.ownBlock=some k:=by unfold ownL;simp[Option.mem_toList]
def RowO (R:Rep α)(e:TypeId)(S:LN)(B:Nat)(W:World)(v:Value)(xs:List α):Prop:=RowK R e W (S++ownL v) B W v xs
theorem RowO.lt (h:RowO R e S B W v xs){k:Nat}(hk:v.ownBlock=some k):B≤k∧k<W.heap.size:=RowK.lt h hk
theorem RowO.of {w0:World}{T:LN}(h:RowK R e w0 T B W v xs)(hS:∀k∈S,k∈T∨w0.heap.size≤k):RowO R e S B W v xs:=
 h.now (fun k hk=>by
  rcases List.mem_append.1 hk with h1 | h1
  ·exact hS k h1
  ·exact h.1.2.2 k (ownL_mem.1 h1)) (fun k hk=>List.mem_append.2 (.inr (ownL_mem.2 hk)))
theorem RowO.step {W':World}{T:LN}(h:RowO R e S B W v xs)(hk:Kept T W W')(hT:∀k∈T,(k∈S∨W.heap.size≤k)∧v.ownBlock≠some k):RowO R e S B W' v xs:=
 (RowK.kept h hk (fun k hk=>⟨(hT k hk).1.imp (fun h=>List.mem_append.2 (.inl h)) id,(hT k hk).2⟩)).now (fun _ h=>.inl h) (fun _ hk=>List.mem_append.2 (.inr (ownL_mem.2 hk)))
theorem RowO.bel {W':World}(h:RowO R e S B W v xs)(hb:Below W.heap.size W W'):RowO R e S B W' v xs:=h.step (Kept.of_below hb []) (by simp)
theorem RowO.sl (h:RowO R e S B W v xs)(hs:xs.length≤17592186044416):∃A c,v=.slice A xs.length c∧SlIs R W A xs.length c xs:=RowK.sl h hs
theorem RowO.stab (h:RowO R e S B W v xs)(hs:xs.length≤17592186044416){T:LN}(hT:∀k∈T,(k∈S∨W.heap.size≤k)∧v.ownBlock≠some k):∃A c,v=.slice A xs.length c∧StabS R T W A xs.length c xs:=
 RowK.stab h hs (fun k hk=>(hT k hk).1.imp (fun h=>List.mem_append.2 (.inl h)) id) (fun k hv hk=>(hT k hk).2 hv)
theorem RowO.app1 {t:TypeId}{z:Value}{bytes:Nat}(ht:ElTy R t e z bytes)(h:RowO R e S B W v xs)(c0:List Value)(x:α)(hx:Stab R (S++ownL v) W c0 x)(hs:xs.length<1099511627776)(ty:TypeId):
  ∃v' w',(Builtin.append_ #[t,t] ty #[v,.slice (some ⟨W.heap.size,0,none⟩) 1 1]).run Tryz.prog (W.alloc (.cells c0.toArray e))=.ok v' w'∧RowO R e S B w' v' (xs++[x])∧W.grownBy w' v.ownBlock∧(∀k,v'.ownBlock=some k→v.ownBlock=some k∨W.heap.size≤k):=by
 obtain⟨v',w',h1,h2,h3,h4⟩:=RowK.app1 ht h c0 x hx hs ty
 exact⟨v',w',h1,RowO.of h2 (fun k hk=>.inl (List.mem_append.2 (.inl hk))),h3,h4⟩
end

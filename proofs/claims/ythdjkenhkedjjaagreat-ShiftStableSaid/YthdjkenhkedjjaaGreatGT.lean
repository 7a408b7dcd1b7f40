/- GT -/
import Derived.Test.YthdjkenhkedjjaaGreatVls
import Derived.Test.YthdjkenhkedjjaaGreatGY
import Derived.Test.YthdjkenhkedjjaaGreatCmi
import Derived.Shelf.Slices.CompactI
import Derived.Test.YthdjkenhkedjjaaGreatInv
import Derived.Stop.RegionWithIn
set_option maxRecDepth 100000
set_option maxHeartbeats 4000000
namespace Go.Proofs.YthdjkenhkedjjaaGreat
open Go.RowKit
structure GrowI (w:World)(base ub n:Nat)(U:Nat→LI)(us:Nat→Value)(ls:Nat→Nat):Prop where
 blk:Blk w ub 23 (valCells n us)
 own:∀a,a<n→OwnI w base (us a) (ls a) (U a)
 ne:∀a b k,a<n→b<n→a≠b→(us a).ownBlock=some k→(us b).ownBlock≠some k
def updG (U:Nat→LI)(a:Nat)(l:LI):Nat→LI:=fun j=>if j=a then l else U j
theorem GrowI.cell {w:World}{base ub n:Nat}{U:Nat→LI}{us:Nat→Value}{ls:Nat→Nat}(h:GrowI w base ub n U us ls){a:Nat}(ha:a<n):w.cell? ⟨ub,a,none⟩=some (us a):=by
 rw[h.blk.cell,valCells_get _ _ _ ha]
theorem GrowI.keptS {w w':World}{base ub n:Nat}{U:Nat→LI}{us:Nat→Value}{ls:Nat→Nat}{S:LN}(h:GrowI w base ub n U us ls)(hk:Kept S w w')(hu:ub∉S)(hS:∀k∈S,k<base):GrowI w' base ub n U us ls:=
 ⟨hk.blk h.blk hu,fun a ha=>(h.own a ha).keptS hk (fun k hq hm=>by
  have h1:=((h.own a ha).2.lt k hq).1;have h2:=hS k hm;omega),h.ne⟩
theorem GrowI.bel {w w':World}{base ub n:Nat}{U:Nat→LI}{us:Nat→Value}{ls:Nat→Nat}(h:GrowI w base ub n U us ls)(hb:Below w.heap.size w w'):GrowI w' base ub n U us ls:=
 h.keptS ((Kept.refl [] w).bel hb) (by simp) (by simp)
theorem GrowI.app {w w':World}{base ub n:Nat}{U:Nat→LI}{us:Nat→Value}{ls:Nat→Nat}(h:GrowI w base ub n U us ls)(hub:ub<base){a:Nat}(ha:a<n){v':Value}{l':Nat}{xs:LI}
  (ho:OwnI w' base v' l' xs) (hg:w.grownBy w' (us a).ownBlock) (hv:∀k,v'.ownBlock=some k→(us a).ownBlock=some k∨w.heap.size≤k):
  GrowI (w'.setCell ⟨ub,a,none⟩ v') base ub n (updG U a xs) (fun j=>if j=a then v' else us j) (fun j=>if j=a then l' else ls j):=by
 have hk:Kept [ub] w' (w'.setCell ⟨ub,a,none⟩ v'):=(Kept.refl [ub] w').set (.inl (by simp)) _;have hrow:some ub≠(us a).ownBlock:=fun e=>by have:=((h.own a ha).2.lt ub e.symm).1;omega
 refine⟨?_,fun b hb=>?_,fun b c k hb hc hne hq=>?_⟩
 ·have:=(h.blk.grown hg hrow).set_ a v'
  rw[valCells_set]at this;exact this
 ·by_cases e:b=a
  ·subst e;simp only[updG,if_true];exact ho.keptS hk (fun k hq hm=>by have:=(ho.2.lt k hq).1;simp at hm;omega)
  ·simp only[updG,e,if_false]
   refine((h.own b hb).kept hg ?_).keptS hk (fun k hq hm=>by have:=((h.own b hb).2.lt k hq).1;simp at hm;omega)
   cases hq:(us b).ownBlock with
   |none=>exact .inl rfl
   |some k=>exact .inr fun e2=>h.ne b a k hb ha e hq e2.symm
 ·by_cases e1:b=a
  ·have e2:¬c=a:=fun e2=>hne (e1.trans e2.symm);simp only[e1,e2,if_true,if_false]at hq ⊢;intro hq2;rcases hv k hq with h1 | h1
   ·exact h.ne a c k ha hc (fun e3=>e2 e3.symm) h1 hq2
   ·have:=((h.own c hc).2.lt k hq2).2;omega
  ·simp only[e1,if_false]at hq ⊢
   by_cases e2:c=a
   ·simp only[e2,if_true];intro hq2;rcases hv k hq2 with h1 | h1
    ·exact h.ne b a k hb ha e1 hq h1
    ·have:=((h.own b hb).2.lt k hq).2;omega
   ·simp only[e2,if_false];exact h.ne b c k hb hc hne hq
theorem info_rowI:(Tryz.prog.info? 23).map (fun i=>(i.zero,i.size,i.bytes))=some (some (.slice none 0 0),1,24):=by kernel_rfl
theorem rows_eq (n:Nat):madeCells #[Value.slice none 0 0] n=valCells n (fun _=>.slice none 0 0):=by
 unfold madeCells valCells;apply Array.ext
 ·simp
 ·intro i h1 h2;simp[Nat.mod_one]
theorem make_graph (n:Nat)(hn:n≤4398046511104)(W:World):
  (Instr.makeSlice 91 (.int .i64 (n:Int)) (.int .i64 (n:Int))).run Tryz.prog W=.ok (.slice (some ⟨W.heap.size,0,none⟩) n n) (W.alloc (.cells (valCells n (fun _=>.slice none 0 0)) 23)):=by
 have h:=run_make_row' (P:=Tryz.prog) 91 23 (.slice none 0 0) 24 Tryz.underlying91 info_rowI rfl .i64 .i64 n (by omega) (by omega) W;rw[h,rows_eq]
theorem GrowI.new {w:World}{ub n base:Nat}(h:Blk w ub 23 (valCells n (fun _=>.slice none 0 0))):GrowI w base ub n (fun _=>[]) (fun _=>.slice none 0 0) (fun _=>0):=
 ⟨h,fun _ _=>OwnI.nil w base,fun _ _ _ _ _ _ hq=>by simp[Value.ownBlock]at hq⟩
theorem GrowI.sl {w:World}{base ub n:Nat}{U:Nat→LI}{us:Nat→Value}{ls:Nat→Nat}(h:GrowI w base ub n U us ls)(hn:n≤100000)(hl:∀a,a<n→ls a≤17592186044416)(h64:∀a,a<n→∀x∈U a,I64 x):
  SlIs (slR intR) w (some ⟨ub,0,none⟩) n n ((List.range n).map U):=by
 refine⟨by simp,Nat.le_refl _,⟨by unfold maxLen;omega,by omega⟩,fun _=>⟨_,rfl,h.blk.lt,fun i x hx=>?_⟩⟩
 have hi:i<n:=by have:=(List.getElem?_eq_some_iff.1 hx).1;simpa using this
 have hx2:x=U i:=by
  rw[List.getElem?_map,List.getElem?_range hi]at hx
  simpa using hx.symm
 subst hx2
 obtain⟨A,c,e,s⟩:=(h.own i hi).sl (hl i hi) (h64 i hi)
 refine⟨[.slice A (ls i) c],⟨A,ls i,c,rfl,s⟩,fun j u hu=>?_⟩
 match j,hu with
 |0,hu=>
  rw[add_none,h.blk.cell,Nat.zero_add]
  have:u=us i:=by rw[e];simpa using hu.symm
  subst this
  simpa[slR]using valCells_get n us i hi
 |j+1,hu=>simp at hu
open Go.RowKit
theorem SlIs.keptR {α:Type}{R:Rep α}{M:LN}{w w':World}{A:OA}{l c:Nat}{xs:List α}(h:SlIs R w A l c xs)(hk:Kept M w w')(ho:Off M A l)(hr:∀cs x,x∈xs→R.is w cs x→R.is w' cs x):SlIs R w' A l c xs:=by
 refine⟨h.1,h.2.1,h.2.2.1,fun h0=>?_⟩
 obtain⟨ad,e,hl,hc⟩:=h.2.2.2 h0
 refine⟨ad,e,Nat.lt_of_lt_of_le hl hk.size,fun i x hx=>?_⟩
 obtain⟨cs,h1,h2⟩:=hc i x hx
 refine⟨cs,hr cs x (List.mem_of_getElem? hx) h1,fun j u hu=>hk.cell (h2 j u hu) ?_⟩
 have hb:(ad.add (i*R.size+j)).block=ad.block:=by unfold Addr.add;split <;> rfl
 rw[hb];exact ho h0 ad e
open Go.RowKit Go.Shelf
theorem psL_snoc {xs:LI}{k:Nat}{x:Int}(h:xs[k]? = some x):psL (xs.take (k+1))=psL (xs.take k)++(if 0<x then[x]else[]):=by
 unfold psL;rw[take_snoc' h,List.filter_append]
 congr 1
 by_cases h0:0<x <;> simp[h0]
theorem psL_pre (xs:LI)(k:Nat):psL (xs.take k) <+: psL xs:=(List.take_prefix k xs).filter _
theorem positive_fn (bA:OA)(bl bc:Nat)(w:World):
  Calls Tryz.prog 102 #[.slice bA bl bc] w fun e w'=>e=.returned (.func (.func 134) #[] #[.pointer (some ⟨w.heap.size,0,none⟩)])∧w'=w.alloc (.cells #[.slice bA bl bc] 23):=by
 go_enter Tryz.func102,Tryz.ntmps102;go_wp2;go_ret
 exact⟨rfl,rfl⟩
theorem pos1_iter (m:Nat)(_hm:1≤m)(a:Nat)(xA:OA)(xl xc:Nat)(xs:LI)(M0:LN)(w:World)
  (hres:∀M W,(∀k∈M,k∈M0∨w.heap.size≤k)→Kept M w W→W.cell? ⟨a,0,none⟩=some (.slice xA xl xc)∧SlIs intR W xA xl xc xs):
  IterM Fence.wide m Tryz.prog 134 #[.pointer (some ⟨a,0,none⟩)] GoodI (psL xs) M0 w:=by
 intro l J Jx M W hJ hJx hJM hY h0 hbw hM;refine callsIn_of_wp Tryz.func134 rfl trivial ?_ rfl;simp only[Tryz.ntmps134,List.size_toArray,List.length_cons,List.length_nil,Nat.reduceAdd,Nat.reduceSub,Array.replicate_succ,Array.replicate_zero,List.push_toArray,List.append_toArray,List.nil_append,List.cons_append]
 obtain⟨c0,hs0⟩:=hres M W hM (Kept.of_below hbw _)
 have hlen:=hs0.len;have hxc:=hs0.cap;have hxm:=hs0.max;have HJ':=Zq1 hJ;clear hJ
 obtain⟨HY',HRES,HJX,HJM,H0,HM,HBW,HS0,HLEN⟩:=Zq9 hY hres hJx hJM h0 hM hbw hs0 hlen;clear hY hres hJx hJM h0 hM hbw hs0 hlen
 gi_wp2;clear c0;gi_loopw [7] (fun t wr=>∃(k:Nat) (M Ms:LN),k≤xl∧t=.int .i64 (k:Int)∧J M (psL (xs.take k)) wr∧Kept Ms w wr∧(∀q∈M,q∈Ms)∧(∀q∈Ms,q∈M0∨w.heap.size≤q)) (fun t _=>xl-(intOf t).toNat)
 case atStart=>exact⟨0,M,M,Nat.zero_le _,rfl,H0.out,Kept.of_below HBW.out _,fun _ h=>h,HM.out⟩
 case round=>
  obtain⟨k,M1,Ms,hk,rfl,hj,hkw,hsub,hM1⟩:=hrel
  obtain⟨-,hs1⟩:=HRES.out Ms wr hM1 hkw
  by_cases hlt:k<xl
  ·have k0:(0:Int)≤(k:Int):=(by omega);have k1:(k:Int)<(xl:Int):=(by omega)
   obtain⟨x,hx,-⟩:=hs1.drop hlt
   obtain⟨xb,xo,rfl,lx,cx,x64⟩:=hs1.int hx
   have hsn:=psL_snoc hx
   by_cases hp:0<x
   ·rw[if_pos hp]at hsn;have htk:=hsn.symm;have hgd:GoodI M1 x #[.int .i64 x] wr:=⟨rfl,x64⟩
    obtain⟨fn,tmps,assign,body,hyy,hRd⟩:=HY'.out M1 _ _ _ _ hj (by rw[htk];exact psL_pre _ _) hgd
    obtain⟨HJ,HKW,HSUB,HM1,HS1,HX,X64,HGD,HSN⟩:=Zq9 hj hkw hsub hM1 hs1 hx x64 hgd hsn;clear hj hkw hsub hM1 hs1 hx x64 hgd hsn
    gi_wp2_with fail;refine hRd.mono ?_;rintro e W4 (⟨rfl,M2,hj4,hk4,hm4⟩ | ⟨rfl,hjx⟩)
    ·rw[htk]at hj4;have hw4:Kept (Ms++M2) w W4:=(HKW.out.more (fun q hq=>by simp[hq])).trans (hk4.more (fun q hq=>by simp[HSUB.out q hq]))
     have hc4:∀q∈Ms++M2,q∈M0∨w.heap.size≤q:=fun q hq=>by
      rcases List.mem_append.1 hq with h | h
      ·exact HM1.out q h
      ·rcases hm4 q h with h | h
       ·exact HM1.out q (HSUB.out q h)
       ·exact .inr (Nat.le_trans HKW.out.size h)
     obtain⟨HJ4,HK4,HM4,HW4,HC4,HTK⟩:=Zq6 hj4 hk4 hm4 hw4 hc4 htk;clear hj4 hk4 hm4 hw4 hc4 htk
     gi_wp2_with fail;go_roundw;exact⟨k+1,M2,Ms++M2,by omega,by go_num,HJ4.out,HW4.out,fun q hq=>by simp[hq],HC4.out⟩;simp[intOf];omega
    ·obtain⟨HJX',HTK⟩:=Zq2 hjx htk;clear hjx htk
     gi_wp2_with fail;refine bodyPost_ret (results_none rfl _ _ _) rfl ?_
     exact⟨⟨_,rfl⟩,.inr ⟨_,by rw[HTK.out];exact psL_pre _ _,HJX'.out⟩⟩
   ·rw[if_neg hp,List.append_nil]at hsn;rw[← hsn]at hj
    obtain⟨HJ,HKW,HSUB,HM1,HS1,HX,X64,HSN⟩:=Zq8 hj hkw hsub hM1 hs1 hx x64 hsn;clear hj hkw hsub hM1 hs1 hx x64 hsn
    gi_wp2_with fail
    refine⟨fun f h=>(by cases h),?_⟩
    gi_wp2_with fail;go_roundw;exact⟨k+1,M1,Ms,by omega,by go_num,HJ.out,HKW.out,HSUB.out,HM1.out⟩;simp[intOf];omega
  ·have k1:¬(k:Int)<(xl:Int):=(by omega);have hall:xs.take k=xs:=List.take_of_length_le (by rw[← HLEN.out];omega);rw[hall]at hj
   obtain⟨HJ,HKW,HSUB,HM1,HS1,HALL⟩:=Zq6 hj hkw hsub hM1 hs1 hall;clear hj hkw hsub hM1 hs1 hall
   gi_wp2_with fail;go_end0
   exact⟨⟨_,rfl⟩,.inl ⟨M1,HJ.out⟩⟩
open Go.RowKit Go.Shelf Go.Sort
theorem compactI_any {wr:World}{base:Nat}{v:Value}{lv:Nat}{xs:LI}(h:OwnI wr base v lv xs)(hlv:lv≤17592186044416)(hc:(Lib.compact xs).length≤xs.length):
  Calls Tryz.prog 104 #[v] wr fun e w'=>∃v',e=.returned v'∧OwnI w' base v' (Lib.compact xs).length (Lib.compact xs)∧wr.grownBy w' v.ownBlock∧v'.ownBlock=v.ownBlock:=by
 obtain⟨hl,hrow⟩:=h
 have hrow2:=hrow;rcases hrow.2 with⟨rfl,h0⟩ | ⟨g,cap,cur,rfl,hb,hh,hlc,hcm,hcs,htk⟩
 ·have hx:xs=[]:=List.eq_nil_of_length_eq_zero (by rw[← hl];exact h0);subst hx
  refine(Any.slices_Compact_int_empty (P:=Tryz.prog) (ρ:=compactI_ren) { compactI with } none 0 wr).mono ?_
  rintro e w' ⟨rfl,rfl⟩;have ec:Lib.compact ([]:LI)=[]:=rfl;rw[ec];subst hl
  exact⟨_,rfl,⟨rfl,hrow2⟩,grown_refl _ _,rfl⟩
 ·subst hl
  refine(Any.slices_Compact_int (P:=Tryz.prog) (ρ:=compactI_ren) { compactI with } g 0 cap xs wr (holds_of_blockI hh (by simpa using htk)) (by omega) hlc).mono ?_
  rintro e w' ⟨rfl,q,rfl⟩;have e0:∀x:World,x=grow x #[]:=fun x=>by simp[grow]
  refine⟨_,rfl,⟨rfl,?_⟩,by rw[e0 (putRow _ _ _ _ _)];exact grownBy_sortedI _,rfl⟩
  have hlen:(Lib.compact xs++List.replicate (xs.length-(Lib.compact xs).length) 0).length=xs.length:=by simp;omega
  have hw:=heap_sortedI (n:=q) (os:=#[]) (Lib.compact xs++List.replicate (xs.length-(Lib.compact xs).length) 0).toArray hh;rw[← e0]at hw;have ht:=take_putCellsI cur (Lib.compact xs++List.replicate (xs.length-(Lib.compact xs).length) 0) (by rw[hlen,hcs];omega)
  refine⟨by simp,.inr ⟨g,cap,_,rfl,hb,hw,by omega,hcm,by simp[putCells,hcs],?_⟩⟩
  rw[Nat.mul_one];have h3:=congrArg (List.take (Lib.compact xs).length) ht;rw[List.take_take,hlen,Nat.min_eq_left hc,← List.map_take,List.take_append_of_le_length (Nat.le_refl _),List.take_length]at h3;exact h3
open Go.RowKit
section
variable {F : Fence} {n : Nat} {P : Program} {ops : Array Oper} {Q : Exit → Act → World → Prop}
theorem wpAnyIn_inv (J:Array Bool→Act→World→Prop)
  (hstep:∀listed a w i o,J listed a w→ops[i]? = some o→listed.getD i true=false→(∀e∈o.after,Region.binds .any e=true→listed.getD e.on false=true) →
   ∀K:Act→World→Prop,(∀a' w',J (listed.setIfInBounds i true) a' w'→K a' w')→if Region.wanted o (yielded ops a.tmps)=true then o.wpIn F n P a w K Q else(∀f,o.about P w a.eval=some f→F.fn f)∧K (a.put o.dst undef) w)
  (hend:∀listed a w,J listed a w→Region.ready .any ops listed=[]→Q .normal a w):∀(fuel:Nat) (listed:Array Bool) (a:Act) (w:World),J listed a w→listed.toList.count false≤fuel→wpAnyIn F n P .any ops Q fuel listed a w
 |0,listed,a,w,hJ,hf=>by
  have hr:Region.ready .any ops listed=[]:=by
   cases hl:Region.ready .any ops listed with
   |nil=>rfl
   |cons i r=>
    obtain⟨o,_,h2,_⟩:=ready_spec (i:=i) (by rw[hl];simp)
    have:=count_set_true h2
    omega
  exact⟨hr,hend _ _ _ hJ hr⟩
 |fuel+1,listed,a,w,hJ,hf=>by
  refine⟨hend _ _ _ hJ,fun i hi=>?_⟩
  obtain⟨o,h1,h2,h3⟩:=ready_spec hi
  have hc:=count_set_true h2;have hs:=hstep listed a w i o hJ h1 h2 h3 (wpAnyIn F n P .any ops Q fuel (listed.setIfInBounds i true)) (fun a' w' hJ'=>wpAnyIn_inv J hstep hend fuel _ a' w' hJ' (by omega));unfold wpOpIn;rw[h1];exact hs
theorem wpIn_region_inv {id:Nat}{a:Act}{w:World}(J:Array Bool→Act→World→Prop)(hm:P.follows .mixedOrders=true)(h0:J (Array.replicate ops.size false) a w.drew)
  (hstep:∀listed a w i o,J listed a w→ops[i]? = some o→listed.getD i true=false→(∀e∈o.after,Region.binds .any e=true→listed.getD e.on false=true) →
   ∀K:Act→World→Prop,(∀a' w',J (listed.setIfInBounds i true) a' w'→K a' w')→if Region.wanted o (yielded ops a.tmps)=true then o.wpIn F n P a w K Q else(∀f,o.about P w a.eval=some f→F.fn f)∧K (a.put o.dst undef) w)
  (hend:∀listed a w,J listed a w→Region.ready .any ops listed=[]→Q .normal a w):(Code.region id ops true).wpIn F n P Q a w:=
 wpIn_region_any hm (wpAnyIn_inv J hstep hend ops.size _ _ _ h0 (by
  rw[Array.toList_replicate]
  have:=List.count_le_length (a:=false) (l:=List.replicate ops.size false)
  rw[List.length_replicate]at this;exact this))
theorem step_appVIn {o:Oper}{a:Act}{K:Act→World→Prop}{E:Prop}{w:World}(hgd:o.guard=none)(s x:Operand)(t:TypeId)
  (ho:o.op=.call { callee:=.builtin .append,args:=#[s,x],argTypes:=#[t,t] }) {v u:Value} (hs:a.eval s=v) (hx:a.eval x=u) {v':Value} {w':World}
  (hrun:(Builtin.append_ #[t,t] o.type #[v,u]).run P w=.ok v' w') (hK:K (a.put o.dst v') w'):if Region.wanted o (yielded ops a.tmps)=true then o.wpIn F n P a w K Q else E:=by
 have hw:Region.wanted o (yielded ops a.tmps)=true:=by simp[Region.wanted,hgd]
 rw[if_pos hw];unfold Oper.wpIn
 refine⟨?_,?_⟩
 ·simp[Oper.about,ho,resolve,Target.leads,Sem.run_pure]
 ·rw[Oper.semAt_plain F _ _ (by rw[ho];intro c hc';cases hc')];simp[execOp,ho,resolve,invoke,builtin,hs,hx,hrun,Result.andThen];exact hK
end

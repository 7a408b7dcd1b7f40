/- GX -/
import Derived.Test.YthdjkenhkedjjaaGreatBase
import Derived.Test.YthdjkenhkedjjaaGreatRows
import Derived.ProofKit
import Derived.SizedLaws
import Derived.Carry
import Derived.Deep.Slices
import Derived.Deep.Fields
set_option maxRecDepth 100000
namespace Go.Proofs.YthdjkenhkedjjaaGreat
open Go.ChangeShapes Go.WideShapes Go.ChangeAt Go.RowKit Go.Deep
theorem Tryz.own:ownKnob Tryz.prog.godebug=none:=by kernel_rfl
theorem Tryz.laidOut:laidOutB Tryz.prog=true:=by kernel_rfl
def Opens {α:Type}(R:Rep α)(t:TypeId):Prop:=∀{H:Type}{enc:TypeId×Value→H}{W:World}{n:Nat}{cs:List Value}{x:DataW H×List MemPlace},
 DataW.trod enc Tryz.prog W 0 (fun _=>true) true n t cs=some x→(∀k∈x.1.weights Tryz.prog t,k≤reachBytes)→∃y,R.is W cs y
theorem i64_of_wf {z:Int}(h:(Lit.int .i64 z).wf=true):I64 z:=by
 simp[Lit.wf,IntKind.min,IntKind.max,IntKind.bits,IntKind.signed]at h;unfold I64;omega
theorem opens_int:Opens intR 3:=by
 intro H enc W n cs x h _
 obtain⟨z,rfl,_,hw⟩:=DataW.trod_int Tryz.underlying3 h
 exact⟨z,rfl,i64_of_wf hw⟩
theorem opens_str:Opens strR 9:=by
 intro H enc W n cs x h _
 obtain⟨z,rfl,_,hm⟩:=DataW.trod_string Tryz.underlying9 h
 exact⟨z,rfl,hm⟩
theorem weightsAll_mem {H:Type}{P:Program}{e:TypeId}:∀{l:List (DataW H)}{d:DataW H},d∈l→∀k∈d.weights P e,k∈DataW.weightsAll P e l
 |[],_,h,_,_=>by simp at h
 |a::r,d,h,k,hk=>by
  simp only[DataW.weightsAll,List.mem_append];rcases List.mem_cons.1 h with rfl | h
  ·exact .inl hk
  ·exact .inr (weightsAll_mem h k hk)
theorem list_of {α:Type}(p:Nat→α→Prop):∀(n:Nat),(∀i,i<n→∃y,p i y)→∃ys:List α,ys.length=n∧∀i y,ys[i]? = some y→p i y
 |0,_=>⟨[],rfl,fun i y h=>by simp at h⟩
 |n+1,h=>by
  obtain⟨ys,h1,h2⟩:=list_of p n fun i hi=>h i (by omega)
  obtain⟨y,hy⟩:=h n (by omega)
  refine⟨ys++[y],by simp[h1],fun i z hz=>?_⟩
  rcases Nat.lt_trichotomy i n with hi | hi | hi
  ·rw[List.getElem?_append_left (by omega)]at hz;exact h2 i z hz
  ·subst hi;rw[List.getElem?_append_right (by omega),h1]at hz;simp at hz;subst hz;exact hy
  ·rw[List.getElem?_eq_none (by simp;omega)]at hz;cases hz
theorem opens_slice {α:Type}{R:Rep α}{t e:TypeId}(ht:Tryz.prog.underlying t=some (.slice e))(hc:Tryz.prog.cellsOf e=R.size)(hb:8≤Tryz.prog.bytesOf e)(ho:Opens R e):Opens (slR R) t:=by
 intro H enc W n cs x h hw;rcases open_slice ht h with⟨rfl,rfl⟩ | ⟨a,len,cap,m,k,D,Pl,rfl,_,hl,hcap,hm,rfl,hi⟩
 ·exact⟨[],none,0,0,rfl,SlIs.nil _ _⟩
 ·simp only[if_true]at hm;subst hm
  have hwt:∀i,i<m→∀q∈(D i).weights Tryz.prog e,q≤reachBytes:=fun i hi' q hq=>by
   refine hw q ?_;simp only[DataW.weights,ht];refine List.mem_cons_of_mem _ (List.mem_append.2 ?_)
   by_cases hlt:i<len
   ·exact .inl (weightsAll_mem (List.mem_map.2 ⟨i,List.mem_range.2 hlt,rfl⟩) q hq)
   ·refine .inr (weightsAll_mem (List.mem_map.2 ⟨i-len,List.mem_range.2 (by omega),?_⟩) q hq);show D (len+(i-len))=D i;rw[show len+(i-len)=i by omega]
  have hbytes:=hw ((len+(m-len))*Tryz.prog.bytesOf e) (by simp[DataW.weights,ht]);have hr:reachBytes=140737488351232:=by kernel_rfl
  have hm44:len≤17592186044416:=by
   have h1:(len+(m-len))*8≤(len+(m-len))*Tryz.prog.bytesOf e:=Nat.mul_le_mul_left _ hb;rw[hr]at hbytes;omega
  obtain⟨xs,hx1,hx2⟩:=list_of (fun i y=>∃cs',(∀j,j<R.size→W.cell? (a.add (i*R.size+j))=cs'[j]?)∧R.is W cs' y) len (fun i hi'=>by
   obtain⟨cs',h1,h2⟩:=hi i (by omega)
   obtain⟨y,hy⟩:=ho h2 (hwt i (by omega))
   obtain⟨_,_,h3⟩:=World.cells?_some h1
   rw[hc]at h3
   exact⟨y,cs',fun j hj=>by rw[← Go.Deep.add_add];exact h3 j hj,hy⟩)
  refine⟨xs,some a,len,m,rfl,hx1.symm,hl,⟨hcap,hm44⟩,fun h0=>⟨a,rfl,?_,fun i y hy=>?_⟩⟩
  ·have hxp:0<xs.length:=by rw[hx1];exact h0
   have hx0:xs[0]? = some xs[0]:=List.getElem?_eq_getElem hxp
   obtain⟨cs',h1,h2⟩:=hx2 0 _ hx0
   have hz:0<cs'.length:=(by rw[R.len h2];exact R.pos);have h3:=h1 0 R.pos;rw[List.getElem?_eq_getElem hz]at h3;have h4:=World.block_lt_of_cell? _ _ h3
   have:(a.add (0*R.size+0)).block=a.block:=(by unfold Addr.add;split <;> rfl)
   rwa [this]at h4
  ·obtain⟨cs',h1,h2⟩:=hx2 i y hy
   refine⟨cs',h2,fun j u hu=>?_⟩
   have hj:j<R.size:=(by rw[← R.len h2];exact(List.getElem?_eq_some_iff.1 hu).1);rw[h1 j hj];exact hu
theorem opens_ints:Opens (slR intR) 23:=opens_slice Tryz.underlying23 (by kernel_rfl) (by decide +kernel) opens_int
theorem open_fields {H:Type}{enc:TypeId×Value→H}{W:World}{t:TypeId}{fs:Array Field}{n:Nat}{cs:List Value}{x:DataW H×List MemPlace}(he:Tryz.prog.underlying t=some (.struct fs))(hone:oneCellFields Tryz.prog fs=true)(hC:Tryz.prog.cellsOf t=fs.size)
  (h:DataW.trod enc Tryz.prog W 0 (fun _=>true) true n t cs=some x) (hw:∀k∈x.1.weights Tryz.prog t,k≤reachBytes):
  cs.length=fs.size∧∃m:Nat,∀(j:Nat) (f:Field),fs[j]? = some f→∃(v:Value) (y:DataW H×List MemPlace),cs[j]? = some v∧DataW.trod enc Tryz.prog W 0 (fun _=>true) true m f.type [v]=some y∧∀k∈y.1.weights Tryz.prog f.type,k≤reachBytes:=by
 obtain⟨ys,m,_,hx,hlen,hyl,hf⟩:=DataW.trod_struct he h
 rw[hC]at hlen
 refine⟨hlen,m,fun j f hj=>?_⟩
 obtain⟨ho,hk⟩:=hone_of hone j f hj
 have hjl:j<fs.size:=(Array.getElem?_eq_some_iff.1 hj).1;have hv:cs[j]? = some (cs[j]'(by omega)):=List.getElem?_eq_getElem (by omega);have h1:=hf j f hj;rw[ho,hk]at h1
 have hone':(cs.drop j).take 1=[cs[j]'(by omega)]:=by
  rw[List.drop_eq_getElem_cons (by omega)];rfl
 rw[hone']at h1;have hys:ys[j]? = some (ys[j]'(by omega)):=List.getElem?_eq_getElem (by omega)
 refine⟨_,_,hv,h1.trans hys,fun k hk=>hw k ?_⟩
 rw[hx];simp only[DataW.weights,he];exact DataW.weights_mem_each (j:=j) (t:=f.type) (d:=(ys[j]'(by omega)).1) (by simp[hj]) (by simp[hys]) k hk
theorem opens_rule:Opens ruleR 42:=by
 intro H enc W n cs x h hw
 obtain⟨hl,m,hf⟩:=open_fields Tryz.underlying42 (by kernel_rfl) (by kernel_rfl) h hw
 obtain⟨v0,y0,e0,h0,_⟩:=hf 0 _ rfl
 obtain⟨v1,y1,e1,h1,k1⟩:=hf 1 _ rfl
 obtain⟨v2,y2,e2,h2,_⟩:=hf 2 _ rfl
 obtain⟨v3,y3,e3,h3,_⟩:=hf 3 _ rfl
 obtain⟨v4,y4,e4,h4,k4⟩:=hf 4 _ rfl
 obtain⟨v5,y5,e5,h5,k5⟩:=hf 5 _ rfl
 obtain⟨b0,hb0,_⟩:=DataW.trod_bool Tryz.underlying4 h0
 obtain⟨xs1,hi1⟩:=opens_ints h1 k1
 obtain⟨b2,hb2,_⟩:=DataW.trod_bool Tryz.underlying4 h2
 obtain⟨z3,hz3,_,hw3⟩:=DataW.trod_int Tryz.underlying3 h3
 obtain⟨xs4,hi4⟩:=opens_ints h4 k4
 obtain⟨xs5,hi5⟩:=opens_ints h5 k5
 simp only[List.cons.injEq,and_true]at hb0 hb2 hz3;subst hb0 hb2 hz3
 refine⟨⟨b0,xs1,b2,z3,xs4,xs5⟩,v1,v4,v5,?_,hi1,i64_of_wf hw3,hi4,hi5⟩
 match cs,hl,e0,e1,e2,e3,e4,e5 with
 |[a0,a1,a2,a3,a4,a5],_,e0,e1,e2,e3,e4,e5=>
  simp at e0 e1 e2 e3 e4 e5;subst e0 e1 e2 e3 e4 e5
  rfl
theorem opens_rules:Opens (slR ruleR) 24:=opens_slice Tryz.underlying24 (by kernel_rfl) (by decide +kernel) opens_rule
section
variable {H : Type} {enc : TypeId × Value → H} {P : Program}
theorem post_of_below {f:Func}{s:ChangeSpec}{apart fresh handsOn again:Bool}{W W':World}{args:Array Value}{v:Value}{ds gs:List (DataW H)}{before pa pv:List MemPlace}
  (hW:DataW.Whole enc P f.params.toList s.vars apart W args.toList ds gs before)
  (hres:∀(b:Nat) (sp:Nat→Bool) (hd:Bool),DataW.TrodAll enc P W' b sp hd f.resultTypes.toList (v.resultList f.resultTypes.size) (s.fn H (ds++gs)).results [])
  (hargs:DataW.TrodAll enc P W' 0 (fun b=>decide (b<W.heap.size)) true f.params.toList args.toList (s.fn H (ds++gs)).args pa)
  (hvars:DataW.TrodVars enc P W' (fun b=>decide (b<W.heap.size)) s.vars (s.fn H (ds++gs)).vars pv)
  (hb:Below W.heap.size W W') (ha:again=false):s.post enc P f apart fresh handsOn again W args v W':=by
 subst ha
 exact⟨ds,gs,before,[],pa,pv,hW,hres _ _ _,hargs,hvars,hb.frame _,fun h=>by cases h⟩
end
open Go.ChangeShapes Go.WideShapes Go.ChangeAt Go.RowKit Go.Deep
theorem opens_min:Opens minR 67:=by
 intro H enc W n cs x h hw
 obtain⟨hl,m,hf⟩:=open_fields Tryz.underlying67 (by kernel_rfl) (by kernel_rfl) h hw
 obtain⟨v0,y0,e0,h0,_⟩:=hf 0 _ rfl
 obtain⟨v1,y1,e1,h1,k1⟩:=hf 1 _ rfl
 obtain⟨v2,y2,e2,h2,k2⟩:=hf 2 _ rfl
 obtain⟨z0,hz0,_,hw0⟩:=DataW.trod_int Tryz.underlying3 h0
 obtain⟨xs1,hi1⟩:=opens_ints h1 k1
 obtain⟨xs2,hi2⟩:=opens_ints h2 k2
 simp only[List.cons.injEq,and_true]at hz0;subst hz0
 refine⟨⟨z0,xs1,xs2⟩,v1,v2,?_,i64_of_wf hw0,hi1,hi2⟩
 match cs,hl,e0,e1,e2 with
 |[a0,a1,a2],_,e0,e1,e2=>
  simp at e0 e1 e2;subst e0 e1 e2
  rfl
theorem opens_mins:Opens (slR minR) 25:=opens_slice Tryz.underlying25 (by kernel_rfl) (by decide +kernel) opens_min
theorem opens_strs:Opens (slR strR) 22:=opens_slice Tryz.underlying22 (by kernel_rfl) (by decide +kernel) opens_str
theorem open_prog {H:Type}{enc:TypeId×Value→H}{W:World}{base n:Nat}{v:Value}{x:DataW H×List MemPlace}(hv:Value.okWide Tryz.prog W .any base 27 v)
  (h:DataW.trod enc Tryz.prog W 0 (fun _=>true) true n 27 v.cells.toList=some x) (hw:∀k∈x.1.weights Tryz.prog 27,k≤reachBytes):
  ∃(p:GProg) (nA:OA) (nl nc:Nat) (sA:OA) (sl sc:Nat) (rA:OA) (rl rc:Nat) (mA:OA) (ml mc:Nat),v=.agg #[.int .i64 p.n,.slice nA nl nc,.slice sA sl sc,.slice rA rl rc,.slice mA ml mc]∧ProgIn W p nA nl nc sA sl sc rA rl rc mA ml mc:=by
 obtain⟨cs,rfl,_⟩:=okWide_struct Tryz.underlying27 hv
 obtain⟨hl,m,hf⟩:=open_fields Tryz.underlying27 (by kernel_rfl) (by kernel_rfl) h hw
 obtain⟨v0,y0,e0,h0,_⟩:=hf 0 _ rfl
 obtain⟨v1,y1,e1,h1,k1⟩:=hf 1 _ rfl
 obtain⟨v2,y2,e2,h2,k2⟩:=hf 2 _ rfl
 obtain⟨v3,y3,e3,h3,k3⟩:=hf 3 _ rfl
 obtain⟨v4,y4,e4,h4,k4⟩:=hf 4 _ rfl
 obtain⟨z0,hz0,_,hw0⟩:=DataW.trod_int Tryz.underlying3 h0
 obtain⟨xs1,nA,nl,nc,hn,hi1⟩:=opens_strs h1 k1
 obtain⟨xs2,sA,sl,sc,hs,hi2⟩:=opens_ints h2 k2
 obtain⟨xs3,rA,rl,rc,hr,hi3⟩:=opens_rules h3 k3
 obtain⟨xs4,mA,ml,mc,hm,hi4⟩:=opens_mins h4 k4
 simp only[List.cons.injEq,and_true]at hz0 hn hs hr hm;subst hz0 hn hs hr hm
 refine⟨⟨z0,xs1,xs2,xs3,xs4⟩,nA,nl,nc,sA,sl,sc,rA,rl,rc,mA,ml,mc,?_,i64_of_wf hw0,hi1,hi2,hi3,hi4⟩
 obtain⟨cs⟩:=cs
 match cs,hl,e0,e1,e2,e3,e4 with
 |[a0,a1,a2,a3,a4],_,e0,e1,e2,e3,e4=>
  simp[Value.cells]at e0 e1 e2 e3 e4;subst e0 e1 e2 e3 e4
  rfl

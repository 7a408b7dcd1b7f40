/- G2 -/
import Derived.Test.YthdjkenhkedjjaaGreatG1
import Derived.Maps.AppendAt
import Derived.Deep.AppendLies
import Derived.Deep.Draws
import Derived.Deep.OwnRows
namespace Go.Proofs.YthdjkenhkedjjaaGreat
def trueB (x:Int)(m:LI):Bool:=if 0<x then decide (x∈m)else !decide (-x∈m)
def sumT:LI→LI→LI→Int
 |x::xs,y::ys,m=>(if trueB x m then y else 0)+sumT xs ys m
 |_,_,_=>0
def bodyB (r:GRule)(m:LI):Bool:=if r.sum then decide (r.bound≤sumT r.body r.w m)else r.body.all (fun x=>trueB x m)
structure BodyOk (r:GRule):Prop where
 lit:∀x∈r.body,-9223372036854775808<x
 len:r.sum=true→r.w.length=r.body.length
 pos:r.sum=true→∀y∈r.w,0≤y
 tot:r.sum=true→r.w.sum≤1099511627776
theorem sumT_cons (x y:Int)(xs ys m:LI):sumT (x::xs) (y::ys) m=(if trueB x m then y else 0)+sumT xs ys m:=rfl
theorem sum_nonneg:∀{l:LI},(∀y∈l,0≤y)→0≤l.sum
 |[],_=>by simp
 |y::r,h=>by
  have h1:=h y (by simp);have h2:=sum_nonneg (l:=r) fun z hz=>h z (by simp[hz])
  simp;omega
theorem sum_drop_nonneg {l:LI}(h:∀y∈l,0≤y)(k:Nat):0≤(l.drop k).sum:=sum_nonneg fun y hy=>h y (List.mem_of_mem_drop hy)
def satB (r:GRule)(m:LI):Bool:=r.choice || !bodyB r m || r.head.any (fun a=>decide (a∈m))
def derB (m:LI)(a:Int)(r:GRule):Bool:=decide (r.head.head? = some a) && bodyB r m
def derivB (rs:LG)(m:LI)(a:Int):Bool:=rs.any (derB m a)
def stageF (rs:LG)(n:Nat):Nat→(Nat→Int)×LI
 |0=>(fun _=>0,[])
 |k+1=>(fun i=>if (stageF rs n k).1 i=0∧derivB rs (stageF rs n k).2 ((i:Int)+1)=true then (k:Int)+1 else (stageF rs n k).1 i,
   (stageF rs n k).2++((List.range n).filter (fun(i:Nat)=>decide ((stageF rs n k).1 i=0) && derivB rs (stageF rs n k).2 ((i:Int)+1))).map (fun(i:Nat)=>(i:Int)+1))
def roundsL (rs:LG)(n:Nat):LI:=(List.range n).map (stageF rs n n).1
def leastL (rs:LG)(n:Nat):LI:=((List.range n).filter (fun(i:Nat)=>decide (0<(stageF rs n n).1 i))).map (fun(i:Nat)=>(i:Int)+1)
theorem stage_bd (rs:LG)(n:Nat):∀k i,0≤(stageF rs n k).1 i∧(stageF rs n k).1 i≤(k:Int)
 |0,i=>by simp[stageF]
 |k+1,i=>by
  have:=stage_bd rs n k i
  simp only[stageF]
  split <;> (constructor <;> omega)
open Go.RowKit
open Go.RowKit
def defR (n:Int)(r:GRule):Bool:=decide (ruleE r n=0) && !r.choice && decide (r.head.length≤1) && r.body.all (fun x=>decide (0≤x))
def defB (n:Int)(rs:LG):Bool:=decide (0≤n) && decide (n≤4000) && decide (rs.length≤40000) && rs.all (defR n)
open Go.RowKit
theorem grown_below {a w w':World}{row:Option Nat}(h:a.grownBy w row)(hb:Below w.heap.size w w'):a.grownBy w' row:=
 ⟨hb.os.trans h.os,hb.tape.trans h.tape,hb.output.trans h.output,Nat.le_trans h.size hb.size,fun i hi hne=>(hb.block i (Nat.lt_of_lt_of_le hi h.size)).trans (h.block i hi hne)⟩
theorem grown_of_bel {a w:World}(h:Below a.heap.size a w)(row:Option Nat):a.grownBy w row:=⟨h.os,h.tape,h.output,h.size,fun i hi _=>h.block i hi⟩
theorem grown_grown {a w w':World}{row0 row:Option Nat}(h:a.grownBy w row0)(hg:w.grownBy w' row)(hr:∀k,row=some k→row0=some k∨a.heap.size≤k):a.grownBy w' row0:=
 ⟨hg.os.trans h.os,hg.tape.trans h.tape,hg.output.trans h.output,Nat.le_trans h.size hg.size,fun i hi hne=>(hg.block i (Nat.lt_of_lt_of_le hi h.size) (fun e=>by
  rcases hr i e.symm with h1 | h1
  ·exact hne h1.symm
  ·omega)).trans (h.block i hi hne)⟩
theorem bel_grown {B:Nat}{a w w':World}{row:Option Nat}(h:Below B a w)(hg:w.grownBy w' row)(hB:B≤w.heap.size)(hr:∀k,row=some k→B≤k):Below B a w':=h.grown hg hB hr
theorem grown_refl (w:World)(row:Option Nat):w.grownBy w row:=⟨rfl,rfl,rfl,Nat.le_refl _,fun _ _ _=>rfl⟩
theorem grown_drew {a w:World}{row:Option Nat}(h:a.grownBy w row):a.grownBy w.drew row:=⟨h.os,h.tape,h.output,h.size,h.block⟩
theorem grown_alloc {a w:World}{row:Option Nat}(h:a.grownBy w row)(o:Obj):a.grownBy (w.alloc o) row:=grown_below h (bel_alloc w o)
def Blk (w:World)(g:Nat)(t:TypeId)(cs:Array Value):Prop:=w.heap[g]? = some (.cells cs t (0,0))
section
variable {w w' : World} {g : Nat} {t : TypeId} {cs : Array Value}
theorem Blk.lt (h:Blk w g t cs):g<w.heap.size:=by
 rcases Nat.lt_or_ge g w.heap.size with hlt | hge
 ·exact hlt
 ·unfold Blk at h;rw[Array.getElem?_eq_none hge]at h;cases h
theorem Blk.cell (h:Blk w g t cs)(i:Nat):w.cell? ⟨g,i,none⟩=cs[i]?:=cell_of_row w g i cs t (0,0) h
theorem Blk.frozen (h:Blk w g t cs)(i:Nat):w.frozen? ⟨g,i,none⟩=false:=by
 unfold Blk at h;simp[World.frozen?,h]
theorem Blk.new (w:World)(t:TypeId)(cs:Array Value):Blk (w.alloc (.cells cs t)) w.heap.size t cs:=heap_alloc_new w _
theorem Blk.set_ (h:Blk w g t cs)(i:Nat)(u:Value):Blk (w.setCell ⟨g,i,none⟩ u) g t (cs.setIfInBounds i u):=by
 unfold Blk at h ⊢;simp[World.setCell,Array.getElem?_modify,h]
theorem Blk.far (h:Blk w g t cs){p:Addr}(hp:g≠p.block)(u:Value):Blk (w.setCell p u) g t cs:=(Below.heap_setCell w p u g hp).trans h
theorem Blk.bel (h:Blk w g t cs)(hb:Below w.heap.size w w'):Blk w' g t cs:=(hb.block g h.lt).trans h
theorem Blk.grown {row:Option Nat}(h:Blk w g t cs)(hb:w.grownBy w' row)(hg:some g≠row):Blk w' g t cs:=(hb.block g h.lt hg).trans h
theorem Blk.alloc (h:Blk w g t cs)(o:Obj):Blk (w.alloc o) g t cs:=h.bel (bel_alloc w o)
theorem Blk.drew (h:Blk w g t cs):Blk w.drew g t cs:=h
end
def fnCells (n:Nat)(f:Nat→Int):Array Value:=Array.ofFn (fun i:Fin n=>Value.int .i64 (f i))
theorem fnCells_get (n:Nat)(f:Nat→Int)(i:Nat)(h:i<n):(fnCells n f)[i]? = some (.int .i64 (f i)):=by
 unfold fnCells;simp[h]
theorem fnCells_set (n:Nat)(f:Nat→Int)(i:Nat)(v:Int):(fnCells n f).setIfInBounds i (.int .i64 v)=fnCells n (fun j=>if j=i then v else f j):=by
 unfold fnCells;apply Array.ext
 ·simp
 ·intro j h1 h2;rw[Array.getElem_setIfInBounds (by simpa using h1)];simp only[Array.getElem_ofFn]
  by_cases h:i=j
  ·subst h;simp
  ·rw[if_neg h,if_neg (fun e=>h e.symm)]
theorem sl_of_blk {w:World}{g:Nat}{t:TypeId}{n:Nat}{f:Nat→Int}(h:Blk w g t (fnCells n f))(hn:n≤17592186044416)(hf:∀i,i<n→I64 (f i)):
  SlIs intR w (some ⟨g,0,none⟩) n n ((List.range n).map f):=by
 refine⟨by simp,Nat.le_refl _,⟨show n≤9223372036854775807 by omega,hn⟩,fun _=>⟨_,rfl,h.lt,fun i x hx=>?_⟩⟩
 have hi:i<n:=by
  have:=(List.getElem?_eq_some_iff.1 hx).1;simpa using this
 have hxe:x=f i:=by simp[hi]at hx;exact hx.symm
 subst hxe
 refine⟨[.int .i64 (f i)],⟨rfl,hf i hi⟩,fun j u hu=>?_⟩
 match j,hu with
 |0,hu=>simp at hu;subst hu;rw[add_none];simp only[intR,Nat.zero_add,Nat.mul_one,Nat.add_zero];rw[h.cell,fnCells_get n f i hi]
 |j+1,hu=>simp at hu
theorem SlIs.of_own {α:Type}{R:Rep α}{w:World}{base:Nat}{e:TypeId}{v:Value}{l:Nat}{cs:List Value}{xs:List α}(h:w.ownsRow base e R.size v l cs)(hl:l=xs.length)(hs:l≤17592186044416)
  (hr:∀i x,xs[i]? = some x→R.is w ((cs.drop (i*R.size)).take R.size) x):∃A c,v=.slice A l c∧SlIs R w A l c xs:=by
 have hlen:=h.1;rcases h.2 with⟨rfl,h0⟩ | ⟨g,cap,cur,rfl,hb,hh,hlc,hcm,hcs,htk⟩
 ·subst h0;have hxs:xs=[]:=List.eq_nil_of_length_eq_zero hl.symm;subst hxs
  exact⟨none,0,rfl,SlIs.nil R w⟩
 ·refine⟨some ⟨g,0,none⟩,cap,rfl,hl,hlc,⟨hcm,hs⟩,fun hpos=>⟨_,rfl,?_,fun i x hx=>⟨_,hr i x hx,fun j u hu=>?_⟩⟩⟩
  ·exact(h.lt g rfl).2
  ·refine h.cells (g:=g) rfl _ u ?_;rw[List.getElem?_take]at hu
   split at hu
   ·rw[List.getElem?_drop]at hu;exact hu
   ·cases hu
def OwnI (w:World)(base:Nat)(v:Value)(l:Nat)(xs:LI):Prop:=l=xs.length∧w.ownsRow base 3 1 v l (xs.map (Value.int .i64))
theorem OwnI.nil (w:World)(base:Nat):OwnI w base (.slice none 0 0) 0 []:=⟨rfl,World.ownsRow_nil w base _ _⟩
theorem OwnI.len {w:World}{base:Nat}{v:Value}{l:Nat}{xs:LI}(h:OwnI w base v l xs):l=xs.length:=h.1
theorem OwnI.kept {w w':World}{base:Nat}{v:Value}{l:Nat}{xs:LI}{row:Option Nat}(h:OwnI w base v l xs)(hg:w.grownBy w' row)(hne:v.ownBlock=none∨v.ownBlock≠row):OwnI w' base v l xs:=⟨h.1,h.2.kept hg hne⟩
theorem OwnI.bel {w w':World}{base:Nat}{v:Value}{l:Nat}{xs:LI}(h:OwnI w base v l xs)(hb:Below w.heap.size w w'):OwnI w' base v l xs:=
 h.kept (grown_of_bel hb none) (by cases hv:v.ownBlock with | none=>exact .inl rfl | some k=>exact .inr (by simp))
theorem OwnI.mono {w:World}{base base':Nat}{v:Value}{l:Nat}{xs:LI}(h:OwnI w base v l xs)(hb:base'≤base):OwnI w base' v l xs:=by
 refine⟨h.1,h.2.1,?_⟩
 rcases h.2.2 with h2 | ⟨g,cap,cur,a,b,c,d⟩
 ·exact .inl h2
 ·exact .inr ⟨g,cap,cur,a,by omega,c,d⟩
theorem OwnI.sl {w:World}{base:Nat}{v:Value}{l:Nat}{xs:LI}(h:OwnI w base v l xs)(hs:l≤17592186044416)(hx:∀x∈xs,I64 x):∃A c,v=.slice A l c∧SlIs intR w A l c xs:=by
 refine SlIs.of_own (R:=intR) h.2 h.1 hs (fun i x hxi=>?_);show _=[Value.int .i64 x]∧_
 refine⟨?_,hx x (List.mem_of_getElem? hxi)⟩
 have hi:i<xs.length:=(List.getElem?_eq_some_iff.1 hxi).1;have hxe:xs[i]=x:=(List.getElem?_eq_some_iff.1 hxi).2;simp only[intR,Nat.mul_one];rw[← List.map_drop,← List.map_take,List.drop_eq_getElem_cons hi,hxe]
 rfl
theorem info_int:(Tryz.prog.info? 3).map (fun i=>(i.zero,i.size,i.bytes))=some (some (.int .i64 0),1,8):=by kernel_rfl
theorem app1 {w:World}{base:Nat}{v:Value}{l:Nat}{xs:LI}(h:OwnI w base v l xs)(y:Int)(hs:l<17592186044416)(hb:base≤w.heap.size)(ty:TypeId):
  ∃v' w',(Builtin.append_ #[23,23] ty #[v,.slice (some ⟨w.heap.size,0,none⟩) 1 1]).run Tryz.prog (w.alloc (.cells #[.int .i64 y] 3))=.ok v' w'∧OwnI w' base v' (l+1) (xs++[y])∧w.grownBy w' v.ownBlock ∧
   (∀k,v'.ownBlock=some k→v.ownBlock=some k∨w.heap.size≤k):=by
 obtain⟨i0,hi0,hz0,hz1,hz2⟩:=info_parts info_int
 obtain⟨v',w',hrun,h2,h3,_,h5⟩:=run_append_own_at (P:=Tryz.prog) (w.alloc (.cells #[.int .i64 y] 3)) base 23 ty 3 i0 _ 1 8 Tryz.underlying23 hi0 hz0 hz1 hz2 rfl (by omega) v l _ (h.2.alloc _) ⟨w.heap.size,0,none⟩ 1 1 [.int .i64 y] rfl
  (by intro j u hj;match j,hj with
    |0,hj=>simp at hj;subst hj;simp[Addr.add]
    |j+1,hj=>simp at hj) (by simp[Value.oneCell']) (by unfold maxLen;omega) (by omega) (by simp;omega)
 refine⟨v',w',hrun,⟨by rw[h.1];simp,by simpa using h2⟩,⟨h3.os,h3.tape,h3.output,Nat.le_trans (by simp) h3.size,fun k hk hne=>?_⟩,fun k hk=>?_⟩
 ·rw[h3.block k (by simp;omega) hne];exact Below.heap_alloc w _ k hk
 ·rcases h5 with h5 | h5 <;> rw[h5]at hk
  ·exact .inl hk
  ·simp at hk;exact .inr (by omega)
theorem appS {w:World}{base:Nat}{v:Value}{l:Nat}{xs:LI}(h:OwnI w base v l xs){A:OA}{m c:Nat}{ys:LI}(hy:SlIs intR w A m c ys)(hs:l+m≤17592186044416)(hb:base≤w.heap.size)(ty:TypeId):
  ∃v' w',(Builtin.append_ #[23,23] ty #[v,.slice A m c]).run Tryz.prog w=.ok v' w'∧OwnI w' base v' (l+m) (xs++ys)∧w.grownBy w' v.ownBlock ∧
   (∀k,v'.ownBlock=some k→v.ownBlock=some k∨w.heap.size≤k):=by
 obtain⟨i0,hi0,hz0,hz1,hz2⟩:=info_parts info_int
 rcases A with _ | ad
 ·have h0:m=0:=by
   rcases Nat.eq_zero_or_pos m with h0 | h0
   ·exact h0
   ·obtain⟨ad,he,_⟩:=hy.2.2.2 h0;cases he
  subst h0;have hys:ys=[]:=List.eq_nil_of_length_eq_zero hy.len.symm;subst hys
  refine⟨v,w,?_,by simpa using h,grown_refl _ _,fun k hk=>.inl hk⟩
  rcases h.2.2 with⟨rfl,_⟩ | ⟨g,cap,cur,rfl,_,_,hnc,_⟩
  ·simp[Builtin.append_,run_underlying (P:=Tryz.prog) Tryz.underlying23,sizeOf,typeInfo,hi0,Builtin.lenOf,Builtin.firstCells]
  ·simp[Builtin.append_,run_underlying (P:=Tryz.prog) Tryz.underlying23,sizeOf,typeInfo,hi0,Builtin.lenOf,Builtin.firstCells,hnc,storeCells]
 ·have hc:∀i x,ys[i]? = some x→w.cell? (ad.add i)=some (.int .i64 x):=by
   intro i x hx;have h0:0<m:=(by rw[hy.len];have:=(List.getElem?_eq_some_iff.1 hx).1;omega)
   obtain⟨ad',he,hlt,hc⟩:=hy.2.2.2 h0
   cases he
   obtain⟨cs,⟨rfl,_⟩,hcell⟩:=hc i x hx
   have:=hcell 0 _ rfl
   simpa[intR]using this
  obtain⟨v',w',hrun,h2,h3,_,h5⟩:=run_append_own_at (P:=Tryz.prog) w base 23 ty 3 i0 _ 1 8 Tryz.underlying23 hi0 hz0 hz1 hz2 rfl (by omega) v l _ h.2 ad m c (ys.map (Value.int .i64)) (by simp[hy.len])
   (by
     intro j u hj;simp only[List.getElem?_map,Option.map_eq_some_iff]at hj
     obtain⟨x,hx,rfl⟩:=hj
     exact hc j x hx) (by intro u hu;simp at hu;obtain⟨x,_,rfl⟩:=hu;rfl) (by unfold maxLen;omega) (by omega) hb
  refine⟨v',w',hrun,⟨by rw[h.1,hy.len];simp,by simpa using h2⟩,h3,fun k hk=>?_⟩
  rcases h5 with h5 | h5 <;> rw[h5]at hk
  ·exact .inl hk
  ·simp at hk;exact .inr (by omega)
theorem make_int (n:Nat)(hn:n≤17592186044416)(W:World):
  (Instr.makeSlice 23 (.int .i64 (n:Int)) (.int .i64 (n:Int))).run Tryz.prog W=.ok (.slice (some ⟨W.heap.size,0,none⟩) n n) (W.alloc (.cells (fnCells n (fun _=>0)) 3)):=by
 have h:=run_make_row' (P:=Tryz.prog) 23 3 (.int .i64 0) 8 Tryz.underlying23 info_int rfl .i64 .i64 n (by omega) (by omega) W
 have e:madeCells #[Value.int .i64 0] n=fnCells n (fun _=>0):=by
  unfold madeCells fnCells;apply Array.ext
  ·simp
  ·intro i h1 h2;simp[Nat.mod_one]
 rw[h,e]
theorem wpList_append_run {P:Program}{ops:Array Oper}{rest:List Oper}{o:Oper}{a:Act}{w:World}{Q:Exit→Act→World→Prop}(hg:o.guard=none)(s x:Operand)(t:TypeId)
  (ho:o.op=.call { callee:=.builtin .append,args:=#[s,x],argTypes:=#[t,t] }) (v u:Value) (hs:a.eval s=v) (hx:a.eval x=u)
  (v':Value) (w':World) (hrun:(Builtin.append_ #[t,t] o.type #[v,u]).run P w=.ok v' w') (h:wpList P ops Q rest (a.put o.dst v') w'):wpList P ops Q (o::rest) a w:=
 wpList_plain hg fun _ hK=>by
  unfold Oper.wp execOp;simp only[ho,resolve,invoke,builtin,Sem.run_bind,Sem.run_pure,Result.andThen_ok,List.map_toArray,List.map_cons,List.map_nil,hs,hx,hrun];exact hK _ _ h
open Go.RowKit
theorem ordGo_mem (n:Int):∀(xs:LI)(p:Option Int),ordGo n p xs=true→∀x∈xs,litB x n=true
 |[],_,_,_,hx=>by simp at hx
 |y::r,p,h,x,hx=>by
  rw[ordGo_cons]at h;simp only[Bool.and_eq_true]at h;rcases List.mem_cons.1 hx with rfl | hx
  ·exact h.1.1
  ·exact ordGo_mem n r _ h.2 x hx
theorem wtGo_spec:∀(xs:LI)(s:Int),0≤s→s≤1048576→wtGo s xs=true→(∀x∈xs,1≤x)∧s+xs.sum≤1048576
 |[],s,_,h2,_=>by simp;omega
 |x::r,s,h1,h2,h=>by
  simp only[wtGo,Bool.and_eq_true,decide_eq_true_eq]at h;have ih:=wtGo_spec r (s+x) (by omega) (by omega) h.2
  refine⟨fun y hy=>?_,by rw[List.sum_cons];omega⟩
  rcases List.mem_cons.1 hy with rfl | hy
  ·exact h.1.1
  ·exact ih.1 y hy
structure RuleIs (r:GRule)(n:Int):Prop where
 n0:0≤n
 n1:n≤4000
 head:incB n r.head=true
 choice:r.choice=true→r.head≠[]
 body:ordB n r.body=true
 plain:r.sum=false→r.w=[]∧r.bound=0
 wlen:r.sum=true→r.w.length=r.body.length
 wt:r.sum=true→wtGo 0 r.w=true
 b0:r.sum=true→0≤r.bound
 b1:r.sum=true→r.bound≤1048576
theorem ruleE_is {r:GRule}{n:Int}(h:ruleE r n=0):RuleIs r n:=by
 unfold ruleE at h
 split at h
 ·cases h
 ·split at h
  ·cases h
  ·split at h
   ·cases h
   ·split at h
    ·cases h
    ·rename_i h1 h2 h3 h4
     have hb:ordB n r.body=true:=(by simpa using h3)
     have hh:incB n r.head=true:=by
      cases hi:incB n r.head with
      |true=>rfl
      |false=>exact absurd (Or.inl hi) h2
     refine⟨by omega,by omega,hh,fun hc e=>h2 (.inr ⟨hc,by rw[e];rfl⟩),hb,fun hs=>?_,fun hs=>?_,fun hs=>?_,fun hs=>?_,fun hs=>?_⟩
     ·constructor
      ·cases hw:r.w with
       |nil=>rfl
       |cons a b=>exact absurd (.inl ⟨hs,.inl (by rw[hw];simp)⟩) h4
      ·by_cases hz:r.bound=0
       ·exact hz
       ·exact absurd (.inl ⟨hs,.inr hz⟩) h4
     all_goals
      have hw:wtB r.w r.body.length=true:=by
       cases hw:wtB r.w r.body.length with
       |true=>rfl
       |false=>exact absurd (.inr ⟨hs,.inl hw⟩) h4
      simp only[wtB,Bool.and_eq_true,decide_eq_true_eq]at hw
      first
       |exact hw.2
       |exact hw.1
       | (
         by_cases hz:r.bound<0
         ·exact absurd (.inr ⟨hs,.inr (.inl hz)⟩) h4
         ·omega)
       | (
         by_cases hz:1048576<r.bound
         ·exact absurd (.inr ⟨hs,.inr (.inr hz)⟩) h4
         ·omega)
theorem RuleIs.ok {r:GRule}{n:Int}(h:RuleIs r n):BodyOk r:=by
 refine⟨fun x hx=>?_,h.wlen,fun hs y hy=>?_,fun hs=>?_⟩
 ·have:=litB_bd (ordGo_mem n _ _ h.body x hx)
  have:=h.n1
  omega
 ·have:=(wtGo_spec _ 0 (by omega) (by omega) (h.wt hs)).1 y hy;omega
 ·have:=(wtGo_spec _ 0 (by omega) (by omega) (h.wt hs)).2;omega
theorem defR_rule {r:GRule}{n:Int}(h:defR n r=true):RuleIs r n:=by
 simp only[defR,Bool.and_eq_true,decide_eq_true_eq]at h;exact ruleE_is h.1.1.1
theorem inc_mem {n:Int}{xs:LI}(h:incB n xs=true):∀x∈xs,1≤x∧x≤n:=by
 intro x hx;unfold incB at h;simp only[Bool.and_eq_true,List.all_eq_true,decide_eq_true_eq]at h;have h1:=h.2 x hx;have h2:=litB_bd (ordGo_mem n _ _ h.1 x hx);omega
open Go.RowKit
structure Kept (S:LN)(w w':World):Prop where
 os:w'.os=w.os
 tape:w'.tape=w.tape
 output:w'.output=w.output
 size:w.heap.size≤w'.heap.size
 block:∀k,k<w.heap.size→k∉S→w'.heap[k]? = w.heap[k]?
theorem Kept.refl (S:LN)(w:World):Kept S w w:=⟨rfl,rfl,rfl,Nat.le_refl _,fun _ _ _=>rfl⟩
theorem Kept.bel {S:LN}{w a b:World}(h:Kept S w a)(hb:Below a.heap.size a b):Kept S w b:=
 ⟨hb.os.trans h.os,hb.tape.trans h.tape,hb.output.trans h.output,Nat.le_trans h.size hb.size,fun k hk hs=>(hb.block k (Nat.lt_of_lt_of_le hk h.size)).trans (h.block k hk hs)⟩
theorem Kept.alloc {S:LN}{w a:World}(h:Kept S w a)(o:Obj):Kept S w (a.alloc o):=h.bel (bel_alloc a o)
theorem Kept.drew {S:LN}{w a:World}(h:Kept S w a):Kept S w a.drew:=⟨h.os,h.tape,h.output,h.size,h.block⟩
theorem Kept.grown {S:LN}{w a b:World}{row:Option Nat}(h:Kept S w a)(hg:a.grownBy b row)(hr:∀k,row=some k→k∈S∨w.heap.size≤k):Kept S w b:=
 ⟨hg.os.trans h.os,hg.tape.trans h.tape,hg.output.trans h.output,Nat.le_trans h.size hg.size,fun k hk hs=>(hg.block k (Nat.lt_of_lt_of_le hk h.size) (fun e=>by
  rcases hr k e.symm with h1 | h1
  ·exact hs h1
  ·omega)).trans (h.block k hk hs)⟩
theorem Kept.set {S:LN}{w a:World}(h:Kept S w a){p:Addr}(hp:p.block∈S∨w.heap.size≤p.block)(u:Value):Kept S w (a.setCell p u):=
 ⟨h.os,h.tape,h.output,by simpa[World.setCell]using h.size,fun k hk hs=>(Below.heap_setCell a p u k (by
  rintro rfl;rcases hp with h1 | h1
  ·exact hs h1
  ·omega)).trans (h.block k hk hs)⟩
theorem Kept.trans {S:LN}{a b c:World}(h:Kept S a b)(k:Kept S b c):Kept S a c:=
 ⟨k.os.trans h.os,k.tape.trans h.tape,k.output.trans h.output,Nat.le_trans h.size k.size,fun i hi hs=>(k.block i (Nat.lt_of_lt_of_le hi h.size) hs).trans (h.block i hi hs)⟩
theorem Kept.more {S T:LN}{w a:World}(h:Kept S w a)(hs:∀k∈S,k∈T):Kept T w a:=
 ⟨h.os,h.tape,h.output,h.size,fun k hk ht=>h.block k hk (fun h1=>ht (hs k h1))⟩
theorem Kept.below {S:LN}{B:Nat}{w a b:World}(hb:Below B w a)(h:Kept S a b)(hB:B≤a.heap.size)(hS:∀k∈S,B≤k):Below B w b:=
 ⟨h.os.trans hb.os,h.tape.trans hb.tape,h.output.trans hb.output,Nat.le_trans hb.size h.size,fun k hk=>(h.block k (by omega) (fun hs=>by have:=hS k hs;omega)).trans (hb.block k hk)⟩
theorem Kept.cell {S:LN}{w w':World}(h:Kept S w w'){a:Addr}{v:Value}(hc:w.cell? a=some v)(hs:a.block∉S):w'.cell? a=some v:=by
 rw[World.cell?_of_block (h.block _ (World.block_lt_of_cell? w _ hc) hs)];exact hc
theorem Kept.blk {S:LN}{w w':World}(h:Kept S w w'){g:Nat}{t:TypeId}{cs:Array Value}(hb:Blk w g t cs)(hs:g∉S):Blk w' g t cs:=(h.block g hb.lt hs).trans hb
theorem Kept.froz {S:LN}{w w':World}(h:Kept S w w'){a:Addr}(hl:a.block<w.heap.size)(hs:a.block∉S):w'.frozen? a=w.frozen? a:=World.frozen?_of_block (h.block _ hl hs)
theorem Blk.row {w:World}{g:Nat}{t:TypeId}{cs:Array Value}(h:Blk w g t cs)(cs':Array Value):Blk (w.setRow g cs') g t cs':=setRow_heap w g cs cs' t (0,0) h
theorem Kept.row {S:LN}{w a:World}(h:Kept S w a){g:Nat}(hg:g∈S∨w.heap.size≤g)(cs:Array Value):Kept S w (a.setRow g cs):=
 ⟨h.os,h.tape,h.output,by rw[size_setRow];exact h.size,fun k hk hs=>(setRow_other a g k cs (by
  rintro rfl;rcases hg with h1 | h1
  ·exact hs h1
  ·omega)).trans (h.block k hk hs)⟩
theorem results_row_tmp {P:Program}{fn:Func}{p q:Tmp}{ty:TypeId}(h:fn.results=#[.cell p ty,.tmp q])(tmps:Array Value)(w:World)(g:Nat)(t:TypeId)(cs:Array Value)(d:TypeDesc)(v:Value)
  (hp:tmps.getD p undef=.pointer (some ⟨g,0,none⟩)) (hv:tmps.getD q undef=v) (hg:Blk w g t cs)
  (hu:P.underlying ty=some d) (hd:(match d with | .struct _ | .array _ _=>true | _=>false)=true) (hi:(P.info? ty).map (·.size)=some cs.size):
  (results fn tmps).run P w=.ok (.tuple #[.agg cs,v]) w:=by
 have hp':tmps[p]?.getD undef=.pointer (some ⟨g,0,none⟩):=by simpa using hp
 have hv':tmps[q]?.getD undef=v:=by simpa using hv
 simp[results,h,hp',hv',asAddr,run_loadVar_row w g t ty cs (0,0) d hg hu hd hi]
def pairR:Rep (Int×Int) where
 size:=2
 pos:=(by decide)
 is:=fun _ cs x=>cs=[.int .i64 x.1,.int .i64 x.2]∧I64 x.1∧I64 x.2
 len:=by rintro w cs x ⟨rfl,_⟩;rfl
 ext:=fun h _=>h
 one:=by rintro w cs x ⟨rfl,_⟩ u hu;simp at hu;rcases hu with rfl | rfl <;> rfl
def pairCs (xs:List (Int×Int)):List Value:=xs.flatMap fun x=>[.int .i64 x.1,.int .i64 x.2]
theorem pairCs_at:∀(xs:List (Int×Int))(i:Nat)(x:Int×Int),xs[i]? = some x→((pairCs xs).drop (i*2)).take 2=[.int .i64 x.1,.int .i64 x.2]
 |[],i,x,h=>by simp at h
 |y::r,0,x,h=>by simp at h;subst h;rfl
 |y::r,i+1,x,h=>by
  have:=pairCs_at r i x (by simpa using h)
  rw[show (i+1)*2=(i*2)+2 by omega];exact this
def OwnP (w:World)(base:Nat)(v:Value)(l:Nat)(xs:List (Int×Int)):Prop:=l=xs.length∧w.ownsRow base 48 2 v l (pairCs xs)
theorem OwnP.nil (w:World)(base:Nat):OwnP w base (.slice none 0 0) 0 []:=⟨rfl,World.ownsRow_nil w base _ _⟩
theorem OwnP.len {w:World}{base:Nat}{v:Value}{l:Nat}{xs:List (Int×Int)}(h:OwnP w base v l xs):l=xs.length:=h.1
theorem OwnP.kept {w w':World}{base:Nat}{v:Value}{l:Nat}{xs:List (Int×Int)}{row:Option Nat}(h:OwnP w base v l xs)(hg:w.grownBy w' row)(hne:v.ownBlock=none∨v.ownBlock≠row):OwnP w' base v l xs:=⟨h.1,h.2.kept hg hne⟩
theorem OwnP.keptS {w w':World}{base:Nat}{v:Value}{l:Nat}{xs:List (Int×Int)}{S:LN}(h:OwnP w base v l xs)(hk:Kept S w w')(hne:∀k,v.ownBlock=some k→k∉S):OwnP w' base v l xs:=by
 refine⟨h.1,h.2.1,?_⟩
 rcases h.2.2 with h2 | ⟨g,cap,cur,rfl,b,c,d⟩
 ·exact .inl h2
 ·exact .inr ⟨g,cap,cur,rfl,b,(hk.block g (h.2.lt g rfl).2 (hne g rfl)).trans c,d⟩
theorem OwnI.keptS {w w':World}{base:Nat}{v:Value}{l:Nat}{xs:LI}{S:LN}(h:OwnI w base v l xs)(hk:Kept S w w')(hne:∀k,v.ownBlock=some k→k∉S):OwnI w' base v l xs:=by
 refine⟨h.1,h.2.1,?_⟩
 rcases h.2.2 with h2 | ⟨g,cap,cur,rfl,b,c,d⟩
 ·exact .inl h2
 ·exact .inr ⟨g,cap,cur,rfl,b,(hk.block g (h.2.lt g rfl).2 (hne g rfl)).trans c,d⟩
theorem OwnP.sl {w:World}{base:Nat}{v:Value}{l:Nat}{xs:List (Int×Int)}(h:OwnP w base v l xs)(hs:l≤17592186044416)(hx:∀x∈xs,I64 x.1∧I64 x.2):∃A c,v=.slice A l c∧SlIs pairR w A l c xs:=
 SlIs.of_own (R:=pairR) h.2 h.1 hs (fun i x hxi=>⟨pairCs_at xs i x hxi,(hx x (List.mem_of_getElem? hxi)).1,(hx x (List.mem_of_getElem? hxi)).2⟩)
theorem SlIs.pair {w:World}{A:OA}{l c:Nat}{xs:List (Int×Int)}(h:SlIs pairR w A l c xs){k:Nat}{x:Int×Int}(hx:xs[k]? = some x):
  ∃b off,A=some ⟨b,off,none⟩∧b<w.heap.size∧w.cell? ⟨b,off+k*2,none⟩=some (.int .i64 x.1)∧w.cell? ⟨b,off+k*2+1,none⟩=some (.int .i64 x.2)∧I64 x.1∧I64 x.2:=by
 obtain⟨b,off,cs,e,hl,⟨rfl,hi1,hi2⟩,hc⟩:=h.at_ hx
 exact⟨b,off,e,hl,by have:=hc 0 _ rfl;simpa[pairR]using this,by have:=hc 1 _ rfl;simpa[pairR,Nat.add_assoc]using this,hi1,hi2⟩
theorem info_pair:(Tryz.prog.info? 48).map (fun i=>(i.zero,i.size,i.bytes))=some (some (.agg #[.int .i64 0,.int .i64 0]),2,16):=by kernel_rfl
theorem appP {w:World}{base:Nat}{v:Value}{l:Nat}{xs:List (Int×Int)}(h:OwnP w base v l xs)(y z:Int)(hs:l<4398046511104)(hb:base≤w.heap.size)(ty:TypeId):
  ∃v' w',(Builtin.append_ #[45,45] ty #[v,.slice (some ⟨w.heap.size,0,none⟩) 1 1]).run Tryz.prog (w.alloc (.cells #[.int .i64 y,.int .i64 z] 48))=.ok v' w'∧OwnP w' base v' (l+1) (xs++[(y,z)])∧w.grownBy w' v.ownBlock ∧
   (∀k,v'.ownBlock=some k→v.ownBlock=some k∨w.heap.size≤k):=by
 obtain⟨i0,hi0,hz0,hz1,hz2⟩:=info_parts info_pair
 obtain⟨v',w',hrun,h2,h3,_,h5⟩:=run_append_own_at (P:=Tryz.prog) (w.alloc (.cells #[.int .i64 y,.int .i64 z] 48)) base 45 ty 48 i0 _ 2 16 Tryz.underlying45 hi0 hz0 hz1 hz2 rfl (by omega) v l _ (h.2.alloc _) ⟨w.heap.size,0,none⟩ 1 1 [.int .i64 y,.int .i64 z] rfl
  (by intro j u hj;match j,hj with
    |0,hj=>simp at hj;subst hj;simp[Addr.add]
    |1,hj=>simp at hj;subst hj;simp[Addr.add]
    |j+2,hj=>simp at hj) (by simp[Value.oneCell']) (by unfold maxLen;omega) (by omega) (by simp;omega)
 refine⟨v',w',hrun,⟨by rw[h.1];simp,by simpa[pairCs]using h2⟩,⟨h3.os,h3.tape,h3.output,Nat.le_trans (by simp) h3.size,fun k hk hne=>?_⟩,fun k hk=>?_⟩
 ·rw[h3.block k (by simp;omega) hne];exact Below.heap_alloc w _ k hk
 ·rcases h5 with h5 | h5 <;> rw[h5]at hk
  ·exact .inl hk
  ·simp at hk;exact .inr (by omega)
def bp (r:GRule):List (Int×Int):=if r.sum then r.body.zip r.w else r.body.map fun x=>(x,1)
def boundOf (r:GRule):Int:=if r.sum then r.bound else(r.body.length:Int)
def sumP (m:LI):List (Int×Int)→Int
 |[]=>0
 |p::r=>(if p.1∈m then p.2 else 0)+sumP m r
def sumE (a:Int):List (Int×Int)→Int
 |[]=>0
 |p::r=>(if p.1=a then p.2 else 0)+sumE a r
def needF (r:GRule)(m:LI):Int:=boundOf r-sumP m (bp r)
theorem sumP_nil (l:List (Int×Int)):sumP [] l=0:=by
 induction l with
 |nil=>rfl
 |cons p r ih=>simp[sumP,ih]
theorem sumP_cons (a:Int)(m:LI)(ha:a∉m)(l:List (Int×Int)):sumP (a::m) l=sumE a l+sumP m l:=by
 induction l with
 |nil=>rfl
 |cons p r ih=>
  simp only[sumP,sumE,ih,List.mem_cons]
  by_cases h1:p.1=a
  ·have:p.1∉m:=by rw[h1];exact ha
   simp[h1,ha];omega
  ·by_cases h2:p.1∈m <;> simp[h1,h2] <;> omega
theorem sumP_app (m last:LI)(hd:∀x∈last,x∉m)(l:List (Int×Int)):sumP (m++last) l=sumP m l+sumP last l:=by
 induction l with
 |nil=>rfl
 |cons p r ih=>
  simp only[sumP,ih,List.mem_append]
  by_cases h1:p.1∈m
  ·have:p.1∉last:=fun h=>hd _ h h1
   simp[h1,this];omega
  ·by_cases h2:p.1∈last <;> simp[h1,h2] <;> omega
theorem sumP_congr {m m':LI}(h:∀x,x∈m↔x∈m')(l:List (Int×Int)):sumP m l=sumP m' l:=by
 induction l with
 |nil=>rfl
 |cons p r ih=>simp only[sumP,ih,h p.1]
theorem sumT_zip (m:LI):∀(xs ys:LI),(∀x∈xs,0<x)→sumT xs ys m=sumP m (xs.zip ys)
 |[],ys,_=>by cases ys <;> rfl
 |x::xs,[],_=>rfl
 |x::xs,y::ys,h=>by
  have hx:=h x (by simp);have ih:=sumT_zip m xs ys fun z hz=>h z (by simp[hz]);simp only[sumT,List.zip_cons_cons,sumP,ih,trueB,hx,if_true]
  by_cases hm:x∈m <;> simp[hm]
theorem sumP_one (m:LI):∀(xs:LI),sumP m (xs.map fun x=>(x,1))≤(xs.length:Int)∧((xs.length:Int)≤sumP m (xs.map fun x=>(x,1))↔∀x∈xs,x∈m)
 |[]=>by simp[sumP]
 |x::xs=>by
  obtain⟨h1,h2⟩:=sumP_one m xs
  simp only[List.map_cons,sumP,List.length_cons,List.forall_mem_cons,← h2]
  by_cases hm:x∈m <;> simp[hm] <;> omega
theorem body_need (r:GRule)(m:LI)(h:∀x∈r.body,0<x):bodyB r m=true↔needF r m≤0:=by
 unfold bodyB needF boundOf bp
 by_cases hs:r.sum=true
 ·simp only[hs,if_true,decide_eq_true_eq,sumT_zip m _ _ h];omega
 ·have hf:r.sum=false:=by simpa using hs
  simp only[hf,Bool.false_eq_true,if_false];rw[List.all_eq_true];have h2:=(sumP_one m r.body).2;constructor
  ·intro ha
   have:=h2.2 fun x hx=>by have:=ha x hx;simpa[trueB,h x hx]using this
   omega
  ·intro ha x hx
   have:=h2.1 (by omega) x hx
   simpa[trueB,h x hx]using this
def usesI (i:Nat)(a:Int)(l:List (Int×Int)):List (Int×Int):=(l.filter fun p=>decide (p.1=a)).map fun p=>((i:Int),p.2)
def usesGo (a:Int):Nat→LG→List (Int×Int)
 |_,[]=>[]
 |i,r::rs=>usesI i a (bp r)++usesGo a (i+1) rs
def upd (f:Nat→Int)(i:Nat)(v:Int):Nat→Int:=fun j=>if j=i then v else f j
def subU:(Nat→Int)→List (Int×Int)→(Nat→Int)
 |f,[]=>f
 |f,p::r=>subU (upd f p.1.toNat (f p.1.toNat-p.2)) r
def subA (rs:LG):(Nat→Int)→LI→(Nat→Int)
 |f,[]=>f
 |f,a::r=>subA rs (subU f (usesGo a 0 rs)) r
theorem subU_app (f:Nat→Int)(xs ys:List (Int×Int)):subU f (xs++ys)=subU (subU f xs) ys:=by
 induction xs generalizing f with
 |nil=>rfl
 |cons p r ih=>simp only[List.cons_append,subU,ih]
theorem subU_usesI (i:Nat)(a:Int)(l:List (Int×Int))(f:Nat→Int)(j:Nat):subU f (usesI i a l) j=if j=i then f j-sumE a l else f j:=by
 induction l generalizing f with
 |nil=>simp[usesI,subU,sumE]
 |cons p r ih=>
  by_cases h:p.1=a
  ·have e:usesI i a (p::r)=((i:Int),p.2)::usesI i a r:=by simp[usesI,h]
   rw[e,subU,ih]
   by_cases hj:j=i <;> simp[hj,upd,sumE,h]
   omega
  ·have e:usesI i a (p::r)=usesI i a r:=by simp[usesI,h]
   rw[e,ih];simp[sumE,h]
theorem subU_usesGo (a:Int):∀(rs:LG)(i:Nat)(f:Nat→Int)(j:Nat),subU f (usesGo a i rs) j=match (if i≤j then rs[j-i]? else none)with | some r=>f j-sumE a (bp r) | none=>f j
 |[],i,f,j=>by simp[usesGo,subU]
 |r::rs,i,f,j=>by
  rw[usesGo,subU_app,subU_usesGo a rs (i+1)]
  by_cases h1:i+1≤j
  ·have e:j-i=(j-(i+1))+1:=(by omega);rw[if_pos h1,if_pos (by omega:i≤j),e,List.getElem?_cons_succ];have hne:j≠i:=(by omega);rw[subU_usesI,if_neg hne]
  ·rw[if_neg h1]
   by_cases h2:j=i
   ·subst h2;simp[subU_usesI]
   ·rw[if_neg (by omega:¬i≤j)];simp[subU_usesI,h2]
theorem subA_eq (rs:LG):∀(last:LI)(f:Nat→Int),last.Nodup→∀j r,rs[j]? = some r→subA rs f last j=f j-sumP last (bp r)
 |[],f,_,j,r,h=>by simp[subA,sumP_nil]
 |a::l,f,hn,j,r,h=>by
  rw[List.nodup_cons]at hn;rw[subA,subA_eq rs l _ hn.2 j r h,subU_usesGo,sumP_cons a l hn.1];have e:(if 0≤j then rs[j-0]? else none)=some r:=by simpa using h
  rw[e];show f j-sumE a (bp r)-sumP l (bp r)=f j-(sumE a (bp r)+sumP l (bp r));omega
theorem usesGo_mem (a:Int):∀(rs:LG)(i:Nat)(p:Int×Int),p∈usesGo a i rs↔∃k r,rs[k]? = some r∧p.1=((i+k:Nat):Int)∧(a,p.2)∈bp r
 |[],i,p=>by simp[usesGo]
 |r::rs,i,p=>by
  rw[usesGo,List.mem_append,usesGo_mem a rs (i+1) p];constructor
  ·rintro(h | ⟨k,r',h1,h2,h3⟩)
   ·simp only[usesI,List.mem_map,List.mem_filter,decide_eq_true_eq]at h
    obtain⟨q,⟨hq,rfl⟩,rfl⟩:=h
    exact⟨0,r,rfl,rfl,hq⟩
   ·exact⟨k+1,r',by simpa using h1,by rw[h2];congr 1;omega,h3⟩
  ·rintro⟨k,r',h1,h2,h3⟩
   match k,h1 with
   |0,h1=>simp at h1;subst h1;exact .inl (by simp only[usesI,List.mem_map,List.mem_filter,decide_eq_true_eq];exact⟨(a,p.2),⟨h3,rfl⟩,by rw[show p=(p.1,p.2) from rfl,h2];rfl⟩)
   |k+1,h1=>exact .inr ⟨k,r',by simpa using h1,by rw[h2];congr 1;omega,h3⟩
def reachS (rs:LG)(f:Nat→Int)(k:Int)(s:(Nat→Int)×LI)(i:Nat):(Nat→Int)×LI:=
 match rs[i]?.bind fun r=>r.head.head? with
 |some a=>if f i≤0∧s.1 (a-1).toNat=0 then(upd s.1 (a-1).toNat k,s.2++[a])else s
 |none=>s
def reachL (rs:LG)(f:Nat→Int)(k:Int)(s:(Nat→Int)×LI)(is:LN):(Nat→Int)×LI:=is.foldl (reachS rs f k) s
def Fires (rs:LG)(f:Nat→Int)(i j:Nat):Prop:=∃r,rs[i]? = some r∧r.head.head? = some ((j:Int)+1)∧f i≤0
structure Reached (rs:LG)(f:Nat→Int)(k:Int)(o:Nat→Int)(done:LN)(s:(Nat→Int)×LI):Prop where
 hit:∀j,(o j=0∧∃i∈done,Fires rs f i j)→s.1 j=k
 miss:∀j,¬(o j=0∧∃i∈done,Fires rs f i j)→s.1 j=o j
 now:∀x,x∈s.2↔∃j:Nat,x=(j:Int)+1∧o j=0∧∃i∈done,Fires rs f i j
 nd:s.2.Nodup
theorem Reached.nil (rs:LG)(f:Nat→Int)(k:Int)(o:Nat→Int):Reached rs f k o [] (o,[]):=
 ⟨by simp,by simp,by simp,by simp⟩
theorem Reached.step {rs:LG}{f:Nat→Int}{k:Int}{o:Nat→Int}{done:LN}{s:(Nat→Int)×LI}(h:Reached rs f k o done s)(hk:k≠0)(hh:∀r∈rs,∀a∈r.head,1≤a)(i:Nat):
  Reached rs f k o (done++[i]) (reachS rs f k s i):=by
 have key:∀j,(o j=0∧∃i'∈done++[i],Fires rs f i' j)↔(o j=0∧∃i'∈done,Fires rs f i' j)∨(o j=0∧Fires rs f i j):=by
  intro j;constructor
  ·rintro⟨h0,i',hi,hf⟩
   rcases List.mem_append.1 hi with hi | hi
   ·exact .inl ⟨h0,i',hi,hf⟩
   ·simp at hi;subst hi;exact .inr ⟨h0,hf⟩
  ·rintro(⟨h0,i',hi,hf⟩ | ⟨h0,hf⟩)
   ·exact⟨h0,i',by simp[hi],hf⟩
   ·exact⟨h0,i,by simp,hf⟩
 have same:(∀j,o j=0∧Fires rs f i j→o j=0∧∃i'∈done,Fires rs f i' j)→Reached rs f k o (done++[i]) s:=fun hs=>
  ⟨fun j hj=>h.hit j (((key j).1 hj).elim id (hs j)),fun j hj=>h.miss j fun hx=>hj ((key j).2 (.inl hx)),fun x=>(h.now x).trans
   ⟨fun⟨j,e,hx⟩=>⟨j,e,(key j).2 (.inl hx)⟩,fun⟨j,e,hx⟩=>⟨j,e,((key j).1 hx).elim id (hs j)⟩⟩,h.nd⟩
 unfold reachS
 cases hb:rs[i]?.bind fun r=>r.head.head? with
 |none=>exact same fun j ⟨_,r,h1,h2,_⟩=>by rw[h1]at hb;simp[h2]at hb
 |some a=>
  obtain⟨r,h1,h2⟩:=Option.bind_eq_some_iff.1 hb
  have ha:1≤a:=hh r (List.mem_of_getElem? h1) a (List.mem_of_head? h2)
  have hfr:∀j,Fires rs f i j↔(j=(a-1).toNat∧f i≤0):=fun j=>by
   constructor
   ·rintro⟨r',h1',h2',h3'⟩
    rw[h1]at h1';cases h1';rw[h2]at h2';injection h2' with h2'
    exact⟨by omega,h3'⟩
   ·rintro⟨rfl,h3⟩
    exact⟨r,h1,by rw[h2];congr 1;omega,h3⟩
  simp only;split
  ·rename_i hc
   obtain⟨hc1,hc2⟩:=hc
   have hj0:¬(o (a-1).toNat=0∧∃i'∈done,Fires rs f i' (a-1).toNat):=fun hx=>by have:=h.hit _ hx;omega
   have ho:o (a-1).toNat=0:=(by rw[← h.miss _ hj0];exact hc2)
   refine⟨fun j hj=>?_,fun j hj=>?_,fun x=>?_,?_⟩
   ·by_cases e:j=(a-1).toNat
    ·simp[upd,e]
    ·simp only[upd,e,if_false];exact h.hit j (((key j).1 hj).elim id fun hx=>absurd ((hfr j).1 hx.2).1 e)
   ·by_cases e:j=(a-1).toNat
    ·exact absurd ((key j).2 (.inr ⟨by rw[e];exact ho,(hfr j).2 ⟨e,hc1⟩⟩)) hj
    ·simp only[upd,e,if_false];exact h.miss j fun hx=>hj ((key j).2 (.inl hx))
   ·rw[show ∀l:LI,x∈l++[a]↔x∈l∨x=a from fun l=>by simp,h.now x];constructor
    ·rintro(⟨j,e,hx⟩ | rfl)
     ·exact⟨j,e,(key j).2 (.inl hx)⟩
     ·exact⟨(x-1).toNat,by omega,(key _).2 (.inr ⟨ho,(hfr _).2 ⟨rfl,hc1⟩⟩)⟩
    ·rintro⟨j,e,hx⟩
     rcases(key j).1 hx with hx | hx
     ·exact .inl ⟨j,e,hx⟩
     ·have:=((hfr j).1 hx.2).1
      exact .inr (by omega)
   ·rw[List.nodup_append]
    refine⟨h.nd,by simp,fun x hx y hy e=>?_⟩
    simp at hy
    obtain⟨j,e2,hx⟩:=(h.now x).1 hx
    have:j=(a-1).toNat:=(by omega)
    rw[this]at hx;exact hj0 hx
  ·rename_i hc
   refine same fun j ⟨h0,hf⟩=>?_
   obtain⟨e,h3⟩:=(hfr j).1 hf
   refine Classical.byContradiction fun hx=>hc ⟨h3,?_⟩;rw[← e,h.miss j hx];exact h0
theorem Reached.list {rs:LG}{f:Nat→Int}{k:Int}{o:Nat→Int}(hk:k≠0)(hh:∀r∈rs,∀a∈r.head,1≤a):∀(is done:LN)(s:(Nat→Int)×LI),Reached rs f k o done s→Reached rs f k o (done++is) (reachL rs f k s is)
 |[],done,s,h=>by simpa[reachL]using h
 |i::r,done,s,h=>by
  have:=Reached.list hk hh r (done++[i]) _ (h.step hk hh i)
  simpa[reachL,List.append_assoc]using this
theorem stage_in (rs:LG)(n:Nat):∀k x,x∈(stageF rs n k).2↔∃j:Nat,j<n∧x=(j:Int)+1∧(stageF rs n k).1 j≠0
 |0,x=>by simp[stageF]
 |k+1,x=>by
  simp only[stageF,List.mem_append,stage_in rs n k x,List.mem_map,List.mem_filter,List.mem_range,Bool.and_eq_true,decide_eq_true_eq];constructor
  ·rintro(⟨j,h1,h2,h3⟩ | ⟨j,⟨h1,h2,h3⟩,rfl⟩)
   ·exact⟨j,h1,h2,by simp[h3]⟩
   ·exact⟨j,h1,rfl,by rw[if_pos ⟨h2,h3⟩];omega⟩
  ·rintro⟨j,h1,h2,h3⟩
   by_cases hz:(stageF rs n k).1 j=0
   ·by_cases hd:derivB rs (stageF rs n k).2 ((j:Int)+1)=true
    ·exact .inr ⟨j,⟨h1,hz,hd⟩,h2.symm⟩
    ·simp[hd,hz]at h3
   ·exact .inl ⟨j,h1,h2,hz⟩
structure DefOk (rs:LG)(n:Nat):Prop where
 head:∀r∈rs,∀a∈r.head,1≤a∧a≤(n:Int)
 body:∀r∈rs,∀x∈r.body,0<x
structure RInv (rs:LG)(n k:Nat)(f o:Nat→Int)(nw:LI):Prop where
 need:∀i r,rs[i]? = some r→f i=needF r (stageF rs n k).2
 out:∀j,j<n→o j=(stageF rs n (k+1)).1 j
 now:∀x,x∈nw↔∃j:Nat,j<n∧x=(j:Int)+1∧(stageF rs n (k+1)).1 j=(k:Int)+1
 nd:nw.Nodup
theorem fires_der {rs:LG}{n:Nat}(hd:DefOk rs n){f:Nat→Int}{m:LI}(hf:∀i r,rs[i]? = some r→f i=needF r m)(j:Nat):(∃i,Fires rs f i j)↔derivB rs m ((j:Int)+1)=true:=by
 unfold derivB derB;rw[List.any_eq_true];constructor
 ·rintro⟨i,r,h1,h2,h3⟩
  refine⟨r,List.mem_of_getElem? h1,?_⟩
  rw[Bool.and_eq_true,decide_eq_true_eq]
  exact⟨h2,(body_need r m (hd.body r (List.mem_of_getElem? h1))).2 (by rw[← hf i r h1];exact h3)⟩
 ·rintro⟨r,hr,h⟩
  rw[Bool.and_eq_true,decide_eq_true_eq]at h
  obtain⟨i,hi⟩:=List.mem_iff_getElem?.1 hr
  exact⟨i,r,hi,h.1,by rw[hf i r hi];exact(body_need r m (hd.body r hr)).1 h.2⟩
theorem RInv.init {rs:LG}{n:Nat}(hd:DefOk rs n){f:Nat→Int}(hf:∀i r,rs[i]? = some r→f i=boundOf r):
  RInv rs n 0 f (reachL rs f 1 (fun _=>0,[]) (List.range rs.length)).1 (reachL rs f 1 (fun _=>0,[]) (List.range rs.length)).2:=by
 have hn:∀i r,rs[i]? = some r→f i=needF r (stageF rs n 0).2:=fun i r h=>by rw[hf i r h];simp[needF,stageF,sumP_nil]
 have hR:=Reached.list (rs:=rs) (f:=f) (k:=1) (o:=fun _=>0) (by decide) (fun r hr a ha=>(hd.head r hr a ha).1) (List.range rs.length) [] _ (Reached.nil rs f 1 _);rw[List.nil_append]at hR
 have key:∀j,(∃i∈List.range rs.length,Fires rs f i j)↔derivB rs [] ((j:Int)+1)=true:=fun j=>by
  rw[← fires_der hd (m:=[]) hn j]
  exact⟨fun⟨i,_,h⟩=>⟨i,h⟩,fun⟨i,h⟩=>⟨i,by obtain⟨r,h1,_⟩:=h;exact List.mem_range.2 (List.getElem?_eq_some_iff.1 h1).1,h⟩⟩
 have fire_lt:∀j i,Fires rs f i j→j<n:=fun j i ⟨r,h1,h2,_⟩=>by have:=(hd.head r (List.mem_of_getElem? h1) _ (List.mem_of_head? h2)).2;omega
 refine⟨hn,fun j hj=>?_,fun x=>?_,hR.nd⟩
 ·by_cases h:derivB rs [] ((j:Int)+1)=true
  ·rw[hR.hit j ⟨rfl,(key j).2 h⟩];simp[stageF,h]
  ·rw[hR.miss j fun hx=>h ((key j).1 hx.2)];simp[stageF,h]
 ·rw[hR.now x];constructor
  ·rintro⟨j,e,_,hx⟩
   have hx':=hx
   obtain⟨i,_,hF⟩:=hx'
   exact⟨j,fire_lt j i hF,e,by simp[stageF,(key j).1 hx]⟩
  ·rintro⟨j,hj,e,hs⟩
   refine⟨j,e,rfl,(key j).2 ?_⟩
   by_cases h:derivB rs [] ((j:Int)+1)=true
   ·exact h
   ·simp[stageF,h]at hs
theorem stage_split (rs:LG)(n k j:Nat):((stageF rs n (k+1)).1 j=(k:Int)+1↔(stageF rs n k).1 j=0∧derivB rs (stageF rs n k).2 ((j:Int)+1)=true) ∧
  ((stageF rs n (k+1)).1 j≠0↔(stageF rs n k).1 j≠0∨(stageF rs n (k+1)).1 j=(k:Int)+1):=by
 have hb:=stage_bd rs n k j;have e:(stageF rs n (k+1)).1 j=if (stageF rs n k).1 j=0∧derivB rs (stageF rs n k).2 ((j:Int)+1)=true then (k:Int)+1 else (stageF rs n k).1 j:=rfl;rw[e]
 by_cases h:(stageF rs n k).1 j=0∧derivB rs (stageF rs n k).2 ((j:Int)+1)=true
 ·rw[if_pos h];exact⟨⟨fun _=>h,fun _=>rfl⟩,⟨fun _=>.inr rfl,fun _=>by omega⟩⟩
 ·rw[if_neg h];exact⟨⟨fun h1=>by omega,fun h1=>absurd h1 h⟩,⟨fun h1=>.inl h1,fun h1=>by omega⟩⟩
theorem sumP_zero (m:LI):∀(l:List (Int×Int)),(∀p∈l,p.1∉m)→sumP m l=0
 |[],_=>rfl
 |p::r,h=>by
  rw[sumP,if_neg (h p (by simp)),sumP_zero m r fun q hq=>h q (by simp[hq])];rfl
def usedIs (rs:LG)(last:LI):LN:=last.flatMap fun a=>(usesGo a 0 rs).map fun p=>p.1.toNat
theorem RInv.step {rs:LG}{n k:Nat}(hd:DefOk rs n){f o:Nat→Int}{nw:LI}(h:RInv rs n k f o nw):
  RInv rs n (k+1) (subA rs f nw) (reachL rs (subA rs f nw) ((k:Int)+2) (o,[]) (usedIs rs nw)).1 (reachL rs (subA rs f nw) ((k:Int)+2) (o,[]) (usedIs rs nw)).2:=by
 have hmem:∀x,x∈(stageF rs n (k+1)).2↔x∈(stageF rs n k).2++nw:=fun x=>by
  rw[List.mem_append,stage_in,stage_in,h.now x];constructor
  ·rintro⟨j,h1,h2,h3⟩
   rcases(stage_split rs n k j).2.1 h3 with h4 | h4
   ·exact .inl ⟨j,h1,h2,h4⟩
   ·exact .inr ⟨j,h1,h2,h4⟩
  ·rintro(⟨j,h1,h2,h3⟩ | ⟨j,h1,h2,h3⟩)
   ·exact⟨j,h1,h2,(stage_split rs n k j).2.2 (.inl h3)⟩
   ·exact⟨j,h1,h2,(stage_split rs n k j).2.2 (.inr h3)⟩
 have hdis:∀x∈nw,x∉(stageF rs n k).2:=fun x hx hs=>by
  obtain⟨j,h1,h2,h3⟩:=(h.now x).1 hx
  obtain⟨i,h4,h5,h6⟩:=(stage_in rs n k x).1 hs
  have:i=j:=(by omega)
  subst this;exact h6 ((stage_split rs n k i).1.1 h3).1
 have hneed:∀i r,rs[i]? = some r→subA rs f nw i=needF r (stageF rs n (k+1)).2:=fun i r hr=>by
  rw[subA_eq rs nw f h.nd i r hr,h.need i r hr];unfold needF;rw[sumP_congr hmem,sumP_app _ _ hdis];omega
 have hR:=Reached.list (rs:=rs) (f:=subA rs f nw) (k:=(k:Int)+2) (o:=o) (by omega) (fun r hr a ha=>(hd.head r hr a ha).1) (usedIs rs nw) [] _ (Reached.nil rs _ _ o);rw[List.nil_append]at hR;have fire_lt:∀j i,Fires rs (subA rs f nw) i j→j<n:=fun j i ⟨r,h1,h2,_⟩=>by have:=(hd.head r (List.mem_of_getElem? h1) _ (List.mem_of_head? h2)).2;omega
 have key:∀j,j<n→o j=0→((∃i∈usedIs rs nw,Fires rs (subA rs f nw) i j)↔derivB rs (stageF rs n (k+1)).2 ((j:Int)+1)=true):=fun j hj hz=>by
  rw[← fires_der hd hneed j]
  refine⟨fun⟨i,_,hF⟩=>⟨i,hF⟩,fun⟨i,hF⟩=>?_⟩
  by_cases hu:i∈usedIs rs nw
  ·exact⟨i,hu,hF⟩
  ·exfalso
   obtain⟨r,h1,h2,h3⟩:=hF
   have hno:∀p∈bp r,p.1∉nw:=fun p hp hn=>hu (by
    unfold usedIs;rw[List.mem_flatMap]
    refine⟨p.1,hn,?_⟩
    rw[List.mem_map]
    exact⟨((i:Int),p.2),(usesGo_mem p.1 rs 0 _).2 ⟨i,r,h1,by simp,hp⟩,by simp⟩)
   rw[subA_eq rs nw f h.nd i r h1,sumP_zero nw _ hno]at h3;have hder:=(fires_der hd (f:=f) h.need j).1 ⟨i,r,h1,h2,by omega⟩;have hz2:(stageF rs n (k+1)).1 j=0:=(by rw[← h.out j hj];exact hz)
   by_cases hs:(stageF rs n k).1 j=0
   ·have:=(stage_split rs n k j).1.2 ⟨hs,hder⟩;omega
   ·exact(stage_split rs n k j).2.2 (.inl hs) hz2
 have hk2:((k+1:Nat):Int)+1=(k:Int)+2:=(by omega)
 refine⟨hneed,fun j hj=>?_,fun x=>?_,hR.nd⟩
 ·have e:(stageF rs n (k+1+1)).1 j=if (stageF rs n (k+1)).1 j=0∧derivB rs (stageF rs n (k+1)).2 ((j:Int)+1)=true then ((k+1:Nat):Int)+1 else (stageF rs n (k+1)).1 j:=rfl;rw[e,← h.out j hj,hk2]
  by_cases hc:o j=0∧derivB rs (stageF rs n (k+1)).2 ((j:Int)+1)=true
  ·rw[if_pos hc];exact hR.hit j ⟨hc.1,(key j hj hc.1).2 hc.2⟩
  ·rw[if_neg hc];exact hR.miss j fun hx=>hc ⟨hx.1,(key j hj hx.1).1 hx.2⟩
 ·rw[hR.now x];constructor
  ·rintro⟨j,e,hz,hx⟩
   have hx':=hx
   obtain⟨i,_,hF⟩:=hx'
   have hj:=fire_lt j i hF
   exact⟨j,hj,e,(stage_split rs n (k+1) j).1.2 ⟨by rw[← h.out j hj];exact hz,(key j hj hz).1 hx⟩⟩
  ·rintro⟨j,hj,e,hs⟩
   obtain⟨h1,h2⟩:=(stage_split rs n (k+1) j).1.1 hs
   have hz:o j=0:=(by rw[h.out j hj];exact h1)
   exact⟨j,e,hz,(key j hj hz).2 h2⟩
theorem stage_stop (rs:LG)(n k:Nat)(h:∀j,j<n→(stageF rs n (k+1)).1 j≠(k:Int)+1):∀m,k≤m→(∀j,j<n→(stageF rs n m).1 j=(stageF rs n k).1 j):=by
 intro m hm
 obtain⟨d,rfl⟩:∃d,m=k+d:=⟨m-k,by omega⟩
 clear hm
 induction d with
 |zero=>intro j _;rfl
 |succ d ih=>
  intro j hj
  have hmem:∀x,x∈(stageF rs n (k+d)).2↔x∈(stageF rs n k).2:=fun x=>by
   rw[stage_in,stage_in]
   exact⟨fun⟨i,h1,h2,h3⟩=>⟨i,h1,h2,by rw[← ih i h1];exact h3⟩,fun⟨i,h1,h2,h3⟩=>⟨i,h1,h2,by rw[ih i h1];exact h3⟩⟩
  have hder:derivB rs (stageF rs n (k+d)).2 ((j:Int)+1)=derivB rs (stageF rs n k).2 ((j:Int)+1):=by
   have hT:∀x,trueB x (stageF rs n (k+d)).2=trueB x (stageF rs n k).2:=fun x=>by
    unfold trueB;simp only[hmem]
   have hS:∀xs ys,sumT xs ys (stageF rs n (k+d)).2=sumT xs ys (stageF rs n k).2:=fun xs=>by
    induction xs with
    |nil=>intro ys;cases ys <;> rfl
    |cons x xs ihx=>
     intro ys
     cases ys with
     |nil=>rfl
     |cons y ys=>simp only[sumT,hT,ihx]
   unfold derivB derB bodyB;simp only[hT,hS]
  have hno:¬((stageF rs n k).1 j=0∧derivB rs (stageF rs n k).2 ((j:Int)+1)=true):=fun hx=>h j hj ((stage_split rs n k j).1.2 hx);have e:(stageF rs n (k+(d+1))).1 j=if (stageF rs n (k+d)).1 j=0∧derivB rs (stageF rs n (k+d)).2 ((j:Int)+1)=true then ((k+d:Nat):Int)+1 else (stageF rs n (k+d)).1 j:=rfl;rw[e,hder,ih j hj,if_neg hno]
def cntF (rs:LG)(n k:Nat):Nat:=((List.range n).filter fun j=>decide ((stageF rs n k).1 j≠0)).length
theorem filter_grow {p q:Nat→Bool}:∀(l:LN),(∀x∈l,p x=true→q x=true)→(∃x∈l,p x=false∧q x=true)→(l.filter p).length<(l.filter q).length
 |[],_,⟨x,hx,_⟩=>by simp at hx
 |y::r,h1,⟨x,hx,h2,h3⟩=>by
  have hle:(r.filter p).length≤(r.filter q).length:=by
   rw[← List.countP_eq_length_filter,← List.countP_eq_length_filter];exact List.countP_mono_left fun z hz=>h1 z (by simp[hz])
  by_cases hy:p y=true
  ·rcases List.mem_cons.1 hx with rfl | hx
   ·rw[hy]at h2;cases h2
   ·have ih:=filter_grow r (fun z hz=>h1 z (by simp[hz])) ⟨x,hx,h2,h3⟩;rw[List.filter_cons_of_pos hy,List.filter_cons_of_pos (h1 y (by simp) hy)];simpa using ih
  ·by_cases hq:q y=true
   ·rw[List.filter_cons_of_neg hy,List.filter_cons_of_pos hq,List.length_cons];omega
   ·rcases List.mem_cons.1 hx with rfl | hx
    ·exact absurd h3 hq
    ·rw[List.filter_cons_of_neg hy,List.filter_cons_of_neg hq];exact filter_grow r (fun z hz=>h1 z (by simp[hz])) ⟨x,hx,h2,h3⟩
theorem cnt_le (rs:LG)(n k:Nat):cntF rs n k≤n:=by
 have:=List.length_filter_le (fun j=>decide ((stageF rs n k).1 j≠0)) (List.range n)
 simpa[cntF]using this
theorem cnt_new (rs:LG)(n:Nat):∀k,(∃j,j<n∧(stageF rs n (k+1)).1 j=(k:Int)+1)→k+1≤cntF rs n (k+1)
 |k,⟨j,hj,hs⟩=>by
  have hg:cntF rs n k<cntF rs n (k+1):=filter_grow _ (fun x _ hx=>by
    rw[decide_eq_true_eq]at hx ⊢;exact(stage_split rs n k x).2.2 (.inl hx)) ⟨j,List.mem_range.2 hj,by simp[((stage_split rs n k j).1.1 hs).1],by rw[decide_eq_true_eq];omega⟩
  match k with
  |0=>omega
  |k+1=>
   have:∃i,i<n∧(stageF rs n (k+1)).1 i=(k:Int)+1:=Classical.byContradiction fun hn=>by
    have hst:=stage_stop rs n k (fun i hi he=>hn ⟨i,hi,he⟩);have h1:=hst (k+1) (by omega) j hj;have h2:=hst (k+1+1) (by omega) j hj;have h3:=((stage_split rs n (k+1) j).1.1 hs).1;omega
   have:=cnt_new rs n k this
   omega
theorem RInv.more {rs:LG}{n k:Nat}{f o:Nat→Int}{nw:LI}(h:RInv rs n k f o nw)(hn:nw≠[]):k+1≤n:=by
 obtain⟨x,hx⟩:=List.exists_mem_of_ne_nil nw hn
 obtain⟨j,h1,_,h3⟩:=(h.now x).1 hx
 exact Nat.le_trans (cnt_new rs n k ⟨j,h1,h3⟩) (cnt_le rs n (k+1))
theorem RInv.done {rs:LG}{n k:Nat}{f o:Nat→Int}(h:RInv rs n k f o []):(List.range n).map o=roundsL rs n:=by
 have hno:∀j,j<n→(stageF rs n (k+1)).1 j≠(k:Int)+1:=fun j hj hs=>by
  have:=(h.now _).2 ⟨j,hj,rfl,hs⟩;simp at this
 have hst:=stage_stop rs n k hno;unfold roundsL;refine List.map_congr_left fun j hj=>?_;rw[List.mem_range]at hj;rw[h.out j hj,hst (k+1) (by omega) j hj]
 by_cases hk:k≤n
 ·exact(hst n hk j hj).symm
 ·-- stage n is the last already
  have hn:∀i,i<n→(stageF rs n (n+1)).1 i≠(n:Int)+1:=fun i hi hs=>by
   have h1:=cnt_new rs n n ⟨i,hi,hs⟩;have h2:=cnt_le rs n (n+1);omega
  exact stage_stop rs n n hn k (by omega) j hj
open Go.RowKit
def valCells (n:Nat)(us:Nat→Value):Array Value:=Array.ofFn (fun i:Fin n=>us i)
theorem valCells_get (n:Nat)(us:Nat→Value)(i:Nat)(h:i<n):(valCells n us)[i]? = some (us i):=by
 unfold valCells;simp[h]
theorem valCells_set (n:Nat)(us:Nat→Value)(i:Nat)(v:Value):(valCells n us).setIfInBounds i v=valCells n (fun j=>if j=i then v else us j):=by
 unfold valCells;apply Array.ext
 ·simp
 ·intro j h1 h2;simp only[Array.size_setIfInBounds,Array.size_ofFn]at h1;rw[Array.getElem_setIfInBounds (by simpa using h1)];simp only[Array.getElem_ofFn]
  by_cases e:i=j
  ·subst e;simp
  ·rw[if_neg e,if_neg (Ne.symm e)]
structure UsesAt (w:World)(base ub n:Nat)(U:Nat→List (Int×Int))(us:Nat→Value)(ls:Nat→Nat):Prop where
 blk:Blk w ub 45 (valCells n us)
 own:∀a,a<n→OwnP w base (us a) (ls a) (U a)
 ne:∀a b k,a<n→b<n→a≠b→(us a).ownBlock=some k→(us b).ownBlock≠some k
def updU (U:Nat→List (Int×Int))(a:Nat)(l:List (Int×Int)):Nat→List (Int×Int):=fun j=>if j=a then l else U j
theorem UsesAt.cell {w:World}{base ub n:Nat}{U:Nat→List (Int×Int)}{us:Nat→Value}{ls:Nat→Nat}(h:UsesAt w base ub n U us ls){a:Nat}(ha:a<n):w.cell? ⟨ub,a,none⟩=some (us a):=by
 rw[h.blk.cell,valCells_get _ _ _ ha]
theorem UsesAt.keptS {w w':World}{base ub n:Nat}{U:Nat→List (Int×Int)}{us:Nat→Value}{ls:Nat→Nat}{S:LN}(h:UsesAt w base ub n U us ls)(hk:Kept S w w')(hu:ub∉S)(hS:∀k∈S,k<base):UsesAt w' base ub n U us ls:=
 ⟨hk.blk h.blk hu,fun a ha=>(h.own a ha).keptS hk (fun k hq hm=>by
  have h1:=((h.own a ha).2.lt k hq).1;have h2:=hS k hm;omega),h.ne⟩
theorem UsesAt.app {w w':World}{base ub n:Nat}{U:Nat→List (Int×Int)}{us:Nat→Value}{ls:Nat→Nat}(h:UsesAt w base ub n U us ls)(hub:ub<base){a:Nat}(ha:a<n){v':Value}{l':Nat}{xs:List (Int×Int)}
  (ho:OwnP w' base v' l' xs) (hg:w.grownBy w' (us a).ownBlock) (hv:∀k,v'.ownBlock=some k→(us a).ownBlock=some k∨w.heap.size≤k):
  UsesAt (w'.setCell ⟨ub,a,none⟩ v') base ub n (updU U a xs) (fun j=>if j=a then v' else us j) (fun j=>if j=a then l' else ls j):=by
 have hk:Kept [ub] w' (w'.setCell ⟨ub,a,none⟩ v'):=(Kept.refl [ub] w').set (.inl (by simp)) _;have hrow:some ub≠(us a).ownBlock:=fun e=>by have:=((h.own a ha).2.lt ub e.symm).1;omega
 refine⟨?_,fun b hb=>?_,fun b c k hb hc hne hq=>?_⟩
 ·have:=(h.blk.grown hg hrow).set_ a v'
  rw[valCells_set]at this;exact this
 ·by_cases e:b=a
  ·subst e;simp only[updU,if_true];exact ho.keptS hk (fun k hq hm=>by have:=(ho.2.lt k hq).1;simp at hm;omega)
  ·simp only[updU,e,if_false]
   refine((h.own b hb).kept hg ?_).keptS hk (fun k hq hm=>by have:=((h.own b hb).2.lt k hq).1;simp at hm;omega)
   cases hq:(us b).ownBlock with
   |none=>exact .inl rfl
   |some k=>exact .inr fun e2=>h.ne b a k hb ha e hq e2.symm
 ·by_cases e1:b=a
  ·have e2:¬c=a:=fun e2=>hne (e1.trans e2.symm);simp only[e1,e2,if_true,if_false]at hq ⊢;intro hq2;rcases hv k hq with h1 | h1
   ·exact h.ne a c k ha hc (fun e3=>e2 e3.symm) h1 hq2
   ·have:=((h.own c hc).2.lt k hq2).2;omega
  ·simp only[e1,if_false]at hq ⊢
   by_cases e2:c=a
   ·simp only[e2,if_true];intro hq2;rcases hv k hq2 with h1 | h1
    ·exact h.ne b a k hb ha e1 hq h1
    ·have:=((h.own b hb).2.lt k hq).2;omega
   ·simp only[e2,if_false];exact h.ne b c k hb hc hne hq
theorem usesGo_take (a:Int):∀(rs:LG)(i0 i:Nat)(r:GRule),rs[i]? = some r→usesGo a i0 (rs.take (i+1))=usesGo a i0 (rs.take i)++usesI (i0+i) a (bp r)
 |[],_,_,_,h=>by simp at h
 |x::rs,i0,0,r,h=>by simp at h;subst h;simp[usesGo]
 |x::rs,i0,i+1,r,h=>by
  have ih:=usesGo_take a rs (i0+1) i r (by simpa using h);rw[List.take_succ_cons,List.take_succ_cons,usesGo,usesGo,ih,List.append_assoc]
  congr 3;omega
theorem usesI_take (i:Nat)(a:Int)(l:List (Int×Int))(k:Nat)(p:Int×Int)(h:l[k]? = some p):usesI i a (l.take (k+1))=usesI i a (l.take k)++(if p.1=a then[((i:Int),p.2)]else[]):=by
 have e:l.take (k+1)=l.take k++[p]:=by rw[List.take_add_one,h];rfl
 unfold usesI;rw[e,List.filter_append,List.map_append]
 by_cases hp:p.1=a <;> simp[hp]
def rowsU (rs:LG)(i k:Nat):Nat→List (Int×Int):=fun a=>usesGo (a:Int) 0 (rs.take i)++(match rs[i]? with | some r=>usesI i (a:Int) ((bp r).take k) | none=>[])
theorem rowsU_zero (rs:LG):rowsU rs 0 0=fun _=>[]:=by
 funext a;unfold rowsU;cases rs[0]? <;> simp[usesGo,usesI]
theorem rowsU_step {rs:LG}{i k:Nat}{r:GRule}{p:Int×Int}(hr:rs[i]? = some r)(hp:(bp r)[k]? = some p)(h0:0≤p.1):rowsU rs i (k+1)=updU (rowsU rs i k) p.1.toNat (rowsU rs i k p.1.toNat++[((i:Int),p.2)]):=by
 funext a
 unfold updU rowsU;simp only[hr];rw[usesI_take i (a:Int) (bp r) k p hp]
 by_cases e:a=p.1.toNat
 ·have:p.1=(a:Int):=(by omega)
  rw[if_pos e,if_pos this,← e,List.append_assoc]
 ·have:¬p.1=(a:Int):=(by omega)
  rw[if_neg e,if_neg this,List.append_nil]
theorem rowsU_next {rs:LG}{i:Nat}{r:GRule}(hr:rs[i]? = some r):rowsU rs i (bp r).length=rowsU rs (i+1) 0:=by
 funext a
 unfold rowsU;simp only[hr,List.take_length];rw[usesGo_take (a:Int) rs 0 i r hr,Nat.zero_add]
 cases rs[i+1]? <;> simp[usesI]
theorem rowsU_end (rs:LG):rowsU rs rs.length 0=fun(a:Nat)=>usesGo (a:Int) 0 rs:=by
 funext a
 unfold rowsU
 simp
theorem info_row:(Tryz.prog.info? 45).map (fun i=>(i.zero,i.size,i.bytes))=some (some (.slice none 0 0),1,24):=by kernel_rfl
theorem make_rows (n:Nat)(hn:n≤4398046511104)(W:World):
  (Instr.makeSlice 145 (.int .i64 (n:Int)) (.int .i64 (n:Int))).run Tryz.prog W=.ok (.slice (some ⟨W.heap.size,0,none⟩) n n) (W.alloc (.cells (valCells n (fun _=>.slice none 0 0)) 45)):=by
 have h:=run_make_row' (P:=Tryz.prog) 145 45 (.slice none 0 0) 24 Tryz.underlying145 info_row rfl .i64 .i64 n (by omega) (by omega) W
 have e:madeCells #[Value.slice none 0 0] n=valCells n (fun _=>.slice none 0 0):=by
  unfold madeCells valCells;apply Array.ext
  ·simp
  ·intro i h1 h2;simp[Nat.mod_one]
 rw[h,e]
theorem UsesAt.new {w:World}{ub n base:Nat}(h:Blk w ub 45 (valCells n (fun _=>.slice none 0 0))):UsesAt w base ub n (fun _=>[]) (fun _=>.slice none 0 0) (fun _=>0):=
 ⟨h,fun _ _=>OwnP.nil w base,fun _ _ _ _ _ _ hq=>by simp[Value.ownBlock]at hq⟩

/- G6 -/
import Derived.Test.YthdjkenhkedjjaaGreatGZ
import Derived.StillTail
set_option maxRecDepth 100000
set_option maxHeartbeats 1000000
namespace Go.Proofs.YthdjkenhkedjjaaGreat
open Go.RowKit
theorem sl_of_cells {α:Type}{R:Rep α}{W:World}{g l:Nat}{t:TypeId}{cs:Array Value}{xs:List α}(h:Blk W g t cs)(hl:l=xs.length)(hs:l≤17592186044416)
  (hc:∀i x,xs[i]? = some x→∃c,R.is W c x∧∀j u,c[j]? = some u→cs[i*R.size+j]? = some u):SlIs R W (some ⟨g,0,none⟩) l l xs:=by
 refine⟨hl,Nat.le_refl _,⟨by unfold maxLen;omega,hs⟩,fun _=>⟨_,rfl,h.lt,fun i x hx=>?_⟩⟩
 obtain⟨c,h1,h2⟩:=hc i x hx
 refine⟨c,h1,fun j u hu=>?_⟩
 rw[add_none,Nat.zero_add,h.cell];exact h2 j u hu
theorem sl_ints {W:World}{g l:Nat}{t:TypeId}(xs:LI)(h:Blk W g t (xs.map (Value.int .i64)).toArray)(hl:l=xs.length)(hs:l≤17592186044416)(hx:∀x∈xs,I64 x):SlIs intR W (some ⟨g,0,none⟩) l l xs:=
 sl_of_cells h hl hs (fun i x hi=>⟨[.int .i64 x],⟨rfl,hx x (List.mem_of_getElem? hi)⟩,fun j u hu=>by
  match j,hu with
  |0,hu=>simp at hu;subst hu;simp[intR,hi]
  |j+1,hu=>simp at hu⟩)
def allocs:World→List Obj→World
 |w,[]=>w
 |w,o::r=>allocs (w.alloc o) r
theorem allocs_bel:∀(os:List Obj)(w:World),Below w.heap.size w (allocs w os)
 |[],_=>Below.refl _ _
 |o::r,w=>bel_trans (bel_alloc w o) (allocs_bel r (w.alloc o))
theorem allocs_heap:∀(os:List Obj)(w:World)(i:Nat)(o:Obj),os[i]? = some o→(allocs w os).heap[w.heap.size+i]? = some o
 |[],_,_,_,h=>by simp at h
 |a::r,w,0,o,h=>by
  simp at h;subst h
  exact((allocs_bel r (w.alloc a)).block w.heap.size (by simp)).trans (heap_alloc_new w a)
 |a::r,w,i+1,o,h=>by
  have:=allocs_heap r (w.alloc a) i o (by simpa using h)
  rw[World.size_alloc]at this;rw[show w.heap.size+(i+1)=w.heap.size+1+i by omega];exact this
theorem allocs_blk {w:World}{os:List Obj}{t:TypeId}{cs:Array Value}(i:Nat)(h:os[i]? = some (.cells cs t)):Blk (allocs w os) (w.heap.size+i) t cs:=allocs_heap os w i _ h
open Go.RowKit
theorem step_appS {ops:Array Oper}{o:Oper}{a:Act}{K:Act→World→Prop}{Q:Exit→Act→World→Prop}{E:Prop}{w:World}(hgd:o.guard=none)(s x:Operand)
  (ho:o.op=.call { callee:=.builtin .append,args:=#[s,x],argTypes:=#[23,23] })
  {base:Nat} {v:Value} {l:Nat} {xs:LI} {A:OA} {m c:Nat} {ys:LI} (hs:a.eval s=v) (hx:a.eval x=.slice A m c)
  (h:OwnI w base v l xs) (hy:SlIs intR w A m c ys) (hl:l+m≤17592186044416) (hb:base≤w.heap.size)
  (hK:∀v' w',OwnI w' base v' (l+m) (xs++ys)→w.grownBy w' v.ownBlock→(∀k,v'.ownBlock=some k→v.ownBlock=some k∨w.heap.size≤k)→K (a.put o.dst v') w'):
  if Region.wanted o (yielded ops a.tmps)=true then Oper.wp Tryz.prog o a w K Q else E:=by
 have hw:Region.wanted o (yielded ops a.tmps)=true:=by simp[Region.wanted,hgd]
 rw[if_pos hw]
 obtain⟨v',w',hrun,h1,h2,h3⟩:=appS h hy hl hb o.type
 unfold Oper.wp execOp;simp only[ho,resolve,invoke,builtin,Sem.run_bind,Sem.run_pure,Result.andThen_ok,List.map_toArray,List.map_cons,List.map_nil,hs,hx,hrun];exact hK _ _ h1 h2 h3
open Go.RowKit
theorem least_any (rA:OA)(rl rc:Nat)(rs:LG)(N:Nat)(w:World)(h:SlIs ruleR w rA rl rc rs)(hd:defB N rs=true):
  Calls Tryz.prog 32 #[.int .i64 N,.slice rA rl rc] w fun e w'=>∃A l c,e=.returned (.tuple #[.slice A l c,.int .i64 0])∧SlIs intR w' A l c (leastL rs N)∧Below w.heap.size w w':=by
 have hN:N≤4000:=by
  unfold defB at hd;simp only[Bool.and_eq_true,decide_eq_true_eq]at hd;omega
 obtain⟨H,HD⟩:=Zq2 h hd;clear h hd
 go_enter Tryz.func32,Tryz.ntmps32;go_wp2_with fail;go_fit (rounds_any rA rl rc rs N w H.out HD.out);rintro e w1 ⟨oA,ol,oc,rfl,hsl,hb1⟩;have holc:=hsl.cap;have hom:=hsl.max;have hlen:ol=N:=by rw[hsl.len];simp[roundsL]
 subst hlen
 obtain⟨HSL,HB1⟩:=Zq2 hsl hb1;clear hsl hb1
 go_wp2_with fail;go_loopw [8,22] (fun v t wr=>∃(k lv:Nat),k≤ol∧t=.int .i64 (k:Int)∧OwnI wr w1.heap.size v lv (((List.range k).filter (fun(i:Nat)=>decide (0<(stageF rs ol ol).1 i))).map (fun(i:Nat)=>(i:Int)+1))∧Below w1.heap.size w1 wr) (fun _ t _=>ol-(intOf t).toNat)
 case atStart=>exact⟨0,0,Nat.zero_le _,rfl,OwnI.nil _ _,Below.refl _ _⟩
 case round=>
  obtain⟨k,lv,hk,rfl,hown,hbw⟩:=hrel
  have hlv:lv≤4000:=by
   rw[hown.len]
   have:=List.length_filter_le (fun(i:Nat)=>decide (0<(stageF rs ol ol).1 i)) (List.range k)
   simp at this ⊢;omega
  have H1:=Zq1 (HSL.out.ext hbw);have hzz:=hbw.size
  by_cases hlt:k<ol
  ·have hx:(roundsL rs ol)[k]? = some ((stageF rs ol ol).1 k):=by unfold roundsL;simp[hlt]
   generalize hz:(stageF rs ol ol).1 k=z at *
   have hst:((List.range (k+1)).filter (fun(i:Nat)=>decide (0<(stageF rs ol ol).1 i))).map (fun(i:Nat)=>(i:Int)+1)=if 0<z then((List.range k).filter (fun(i:Nat)=>decide (0<(stageF rs ol ol).1 i))).map (fun(i:Nat)=>(i:Int)+1)++[(k:Int)+1]else((List.range k).filter (fun(i:Nat)=>decide (0<(stageF rs ol ol).1 i))).map (fun(i:Nat)=>(i:Int)+1):=by
    rw[List.range_succ,List.filter_append,List.map_append]
    by_cases h0:0<z
    ·rw[if_pos h0];simp[hz,h0]
    ·rw[if_neg h0];simp[hz,h0]
   obtain⟨b,off,rfl,_,hcell,_⟩:=H1.out.int hx
   by_cases h0:0<z
   ·obtain⟨v',w3,hrun,hown3,hg3,hat3⟩:=app1 hown ((k:Int)+1) (by omega) hzz 23
    have hb3:=bel_grown hbw hg3 hzz (fun q hq=>(hown.2.lt q hq).1)
    obtain⟨HX,HZ,HST,HOWN,HBW,HRUN,HOWN3,HG3,HAT3,HB3⟩:=Zq10 hx hz hst hown hbw hrun hown3 hg3 hat3 hb3;clear hx hz hst hown hbw hrun hown3 hg3 hat3 hb3
    go_wp2_with (at_builtin;refine wpList_append_run rfl _ _ _ rfl _ _ rfl rfl _ _ HRUN.out ?_);go_roundw;exact⟨k+1,lv+1,by omega,by go_num,by rw[HST.out,if_pos h0];exact HOWN3.out,HB3.out⟩;simp[intOf];omega
   ·obtain⟨HX,HZ,HST,HOWN,HBW⟩:=Zq5 hx hz hst hown hbw;clear hx hz hst hown hbw
    go_wp2_with fail;go_roundw;exact⟨k+1,lv,by omega,by go_num,by rw[HST.out,if_neg h0];exact HOWN.out,HBW.out⟩;simp[intOf];omega
  ·have hkk:k=ol:=(by omega)
   obtain⟨vA,vc,hv,hsv⟩:=hown.sl (by omega) (fun x hx=>by
    obtain⟨i,hi,rfl⟩:=List.mem_map.1 hx
    have:=List.mem_range.1 (List.mem_filter.1 hi).1
    unfold I64;omega)
   obtain⟨HOWN,HBW,HKK,HV,HSV⟩:=Zq5 hown hbw hkk hv hsv;clear hown hbw hkk hv hsv
   go_wp2_with fail;go_ret2
   exact⟨vA,lv,vc,by rw[← HV.out];rfl,by have h1:=HSV.out;rw[HKK.out]at h1;exact h1,bel_trans HB1.out HBW.out⟩
open Go.RowKit
theorem pcells {W:World}{b:Nat}{v0 v1 v2 v3 v4:Value}(h:Blk W b 27 #[v0,v1,v2,v3,v4]):W.cell? ⟨b,0,none⟩=some v0∧W.cell? ⟨b,1,none⟩=some v1∧W.cell? ⟨b,2,none⟩=some v2∧W.cell? ⟨b,3,none⟩=some v3∧W.cell? ⟨b,4,none⟩=some v4∧b<W.heap.size:=⟨h.cell 0,h.cell 1,h.cell 2,h.cell 3,h.cell 4,h.lt⟩
open Go.RowKit
theorem still_of_quiet {P:Program}{ops:Array Oper}{X:World}{Q:Act→Prop}:∀(l:List Oper)(a:Act),wpQuiet P ops (fun w'=>w'=X) Q l a→wpStill P ops X Q l a
 |[],_,h=>h
 |o::r,a,h=>by
  unfold wpQuiet at h;unfold wpStill;split
  ·rename_i hw
   rw[if_pos hw]at h
   obtain⟨v,h1,h2⟩:=h
   have h3:=h1 X rfl;have h4:=still_of_quiet r _ h2;unfold Oper.quietAt at h3;unfold Oper.still;generalize (execOp a.eval o).run P X=q at *
   match q,h3 with
   |.ok (.value u) w',h3=>obtain⟨rfl,rfl⟩:=h3;exact⟨rfl,h4⟩
   |.ok .skip w',h3=>obtain⟨rfl,rfl⟩:=h3;exact⟨rfl,h4⟩
   |.ok (.enter f args) w',h3=>obtain⟨rfl,h5⟩:=h3;exact⟨rfl,v,h5,h4⟩
  ·rename_i hw
   rw[if_neg hw]at h;exact still_of_quiet r _ h
theorem wp_region_tail {P:Program}{id:Nat}{Q:Exit→Act→World→Prop}{a:Act}{w:World}{l:List Oper}(n:Nat)(fs:List (Addr×Value))(hm:P.follows .mixedOrders=true)(hB:Region.lexTailB .any l.toArray n=true)
  (hf:∀f∈fs,w.cell? f.1=some f.2)
  (h:∀X,(∀f∈fs,X.cell? f.1=some f.2)→X=w.drew→wpQuiet P l.toArray (fun w'=>w'=X) (fun a'=>wpList P l.toArray Q (l.drop n) a' X) (l.take n) a):(Code.region id l.toArray true).wp P Q a w:=
 wp_region_still_tail n hm hB (still_of_quiet _ _ (h w.drew hf rfl))

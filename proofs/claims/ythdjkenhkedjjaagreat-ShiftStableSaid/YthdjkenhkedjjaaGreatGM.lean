/- GM -/
import Derived.Test.YthdjkenhkedjjaaGreatGS
namespace Go.Proofs.YthdjkenhkedjjaaGreat
open Go.RowKit
theorem own_blkO {W:World}{B:Nat}{e:TypeId}{z n:Nat}{v:Value}{cs:List Value}(h:W.ownsRow B e z v n cs){g:Nat}{t:TypeId}{c:Array Value}(hb:Blk W g t c)(ht:e≠t):v.ownBlock≠some g:=fun hk=>by
 rcases h.2 with⟨rfl,_⟩ | ⟨g',cap,cur,rfl,_,hg,_⟩
 ·simp[Value.ownBlock]at hk
 ·simp[Value.ownBlock]at hk;subst hk
  have:=hg.symm.trans hb
  simp at this;exact ht this.2
theorem info_prog':(Tryz.prog.info? 27).map (·.size)=some 5:=by kernel_rfl
section
variable {α : Type} {R : Rep α} {e : TypeId} {W : World} {S : LN} {B : Nat} {v : Value} {xs : List α}
theorem RowO.apart {β:Type}{R':Rep β}{e':TypeId}{S':LN}{B':Nat}{v':Value}{ys:List β}(h:RowO R e S B W v xs)(h':RowO R' e' S' B' W v' ys)(he:e≠e'):∀q,v.ownBlock=some q→v'.ownBlock≠some q:=fun q h1 h2=>by
 obtain⟨_,cs,a,_⟩:=h
 obtain⟨_,cs',a',_⟩:=h'
 rcases a.2 with⟨rfl,_⟩ | ⟨g,cap,cur,rfl,_,hh,_⟩
 ·simp[Value.ownBlock]at h1
 ·rcases a'.2 with⟨rfl,_⟩ | ⟨g',cap',cur',rfl,_,hh',_⟩
  ·simp[Value.ownBlock]at h2
  ·have e1:g=q:=by simpa[Value.ownBlock]using h1
   have e2:g'=q:=(by simpa[Value.ownBlock]using h2);subst e1 e2;rw[hh]at hh';injection hh' with hh';injection hh' with _ hh';exact he hh'
end
theorem wpList_append_run2 {P:Program}{ops:Array Oper}{rest:List Oper}{o:Oper}{a:Act}{w:World}{Q:Exit→Act→World→Prop}(hg:o.guard=none)(s x:Operand)(t t':TypeId)
  (ho:o.op=.call { callee:=.builtin .append,args:=#[s,x],argTypes:=#[t,t'] }) (v u:Value) (hs:a.eval s=v) (hx:a.eval x=u)
  (v':Value) (w':World) (hrun:(Builtin.append_ #[t,t'] o.type #[v,u]).run P w=.ok v' w') (h:wpList P ops Q rest (a.put o.dst v') w'):wpList P ops Q (o::rest) a w:=
 wpList_plain hg fun _ hK=>by
  unfold Oper.wp execOp;simp only[ho,resolve,invoke,builtin,Sem.run_bind,Sem.run_pure,Result.andThen_ok,List.map_toArray,List.map_cons,List.map_nil,hs,hx,hrun];exact hK _ _ h
section
variable {α : Type} {R : Rep α} {e : TypeId} {W W' : World} {S S' T : LN} {B : Nat} {v : Value} {xs : List α}
theorem RowO.more (h:RowO R e S B W v xs)(hk:Kept T W W')(hT:∀k∈T,(k∈S∨W.heap.size≤k)∧v.ownBlock≠some k)(hS:∀k∈S',k∈S∨W.heap.size≤k∨v.ownBlock=some k):RowO R e S' B W' v xs:=
 RowO.of (T:=S++ownL v) (w0:=W) (RowK.kept h hk (fun k hk=>⟨(hT k hk).1.imp (fun h=>List.mem_append.2 (.inl h)) id,(hT k hk).2⟩)) (fun k hk=>by
  rcases hS k hk with h1 | h1 | h1
  ·exact .inl (List.mem_append.2 (.inl h1))
  ·exact .inr h1
  ·exact .inl (List.mem_append.2 (.inr (ownL_mem.2 h1))))
theorem RowO.lower (h:RowO R e S B W v xs){B':Nat}(hB:B'≤B):RowO R e S B' W v xs:=by
 obtain⟨⟨a,b,c⟩,cs,⟨k1,k2⟩,d⟩:=h
 refine⟨⟨a,Nat.le_trans hB b,c⟩,cs,⟨k1,?_⟩,d⟩
 rcases k2 with k2 | ⟨g,cap,cur,e1,e2,e3,e4⟩
 ·exact .inl k2
 ·exact .inr ⟨g,cap,cur,e1,Nat.le_trans hB e2,e3,e4⟩
theorem RowO.offBlk (h:RowO R e S B W v xs){g:Nat}{t:TypeId}{c:Array Value}(hb:Blk W g t c)(ht:e≠t):v.ownBlock≠some g:=by
 obtain⟨_,cs,a,_⟩:=h
 exact own_blkO a hb ht
end
open Go.RowKit
section
variable {v0 : World} {PC QC : Array Value} {N : Int} {g : Nat} {S : LN} {nv sv rv mv : Value} {ns : List ByteArray} {sh : LI} {rs : LG} {ms : List GMin} {W W' : World}
end
open Go.RowKit
theorem step_row {ops:Array Oper}{o:Oper}{a:Act}{K:Act→World→Prop}{Q:Exit→Act→World→Prop}{E:Prop}{w:World}(hgd:o.guard=none)(ty:TypeId)(x y:Operand)(ho:o.op=.store ty x y)
  (g:Nat) (cells:Array Value) (hx:a.eval x=.pointer (some ⟨g,0,none⟩)) (hy:a.eval y=.agg cells) (t:TypeId) (old:Array Value) (hg:Blk w g t old) (hi:(Tryz.prog.info? ty).map (·.size)=some cells.size)
  (hold:old.size=cells.size) (h1:cells.all (·.oneCell')=true) (hK:K (a.put o.dst undef) (w.setRow g cells)):if Region.wanted o (yielded ops a.tmps)=true then Oper.wp Tryz.prog o a w K Q else E:=by
 have hw:Region.wanted o (yielded ops a.tmps)=true:=by simp[Region.wanted,hgd]
 rw[if_pos hw];exact wp_store_row ty x y ho g cells hx hy t old hg hi hold h1 hK

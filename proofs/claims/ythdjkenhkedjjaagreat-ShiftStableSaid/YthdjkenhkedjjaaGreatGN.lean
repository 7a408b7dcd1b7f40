/- GN -/
import Derived.Test.YthdjkenhkedjjaaGreatGD
import Derived.Test.YthdjkenhkedjjaaGreatGL
import Derived.Test.YthdjkenhkedjjaaGreatSt6
namespace Go.Proofs.YthdjkenhkedjjaaGreat
open Go.RowKit
section
variable {pm : LI} {n : Int}
theorem litB_iff {x n:Int}:litB x n=true↔x≠0∧-n≤x∧x≤n:=by
 unfold litB;simp only[Bool.and_eq_true,bne_iff_ne,decide_eq_true_eq]
end
theorem sumG_zip (f:Int→Bool):∀xs ys:LI,sumG f xs ys=((xs.zip ys).map fun p=>if f p.1 then p.2 else 0).sum
 |[],_=>by simp[sumG]
 |_::_,[]=>by simp[sumG]
 |x::xs,y::ys=>by rw[sumG,sumG_zip f xs ys,List.zip_cons_cons,List.map_cons,List.sum_cons]
def sumD (f:Int→Bool)(t:Int→Int)(D:LI):Int:=(D.map fun x=>if f x then t x else 0).sum
theorem sumG_D (f:Int→Bool)(t:Int→Int):∀D:LI,sumG f D (D.map t)=sumD f t D
 |[]=>rfl
 |x::D=>by rw[List.map_cons,sumG,sumG_D f t D];unfold sumD;rw[List.map_cons,List.sum_cons]
theorem sumD_add (f:Int→Bool)(s t:Int→Int):∀D:LI,sumD f (fun x=>s x+t x) D=sumD f s D+sumD f t D
 |[]=>rfl
 |x::D=>by
  have ih:=sumD_add f s t D;unfold sumD at ih ⊢;rw[List.map_cons,List.sum_cons,List.map_cons,List.sum_cons,List.map_cons,List.sum_cons,ih]
  cases f x <;> simp <;> omega
theorem sumD_zero (f:Int→Bool)(t:Int→Int):∀D:LI,(∀x∈D,t x=0)→sumD f t D=0
 |[],_=>rfl
 |x::D,h=>by
  have ih:=sumD_zero f t D fun y hy=>h y (by simp[hy]);unfold sumD at ih ⊢;rw[List.map_cons,List.sum_cons,ih,h x (by simp)]
  cases f x <;> rfl
theorem sumD_one (f:Int→Bool)(z v:Int):∀D:LI,D.Nodup→z∈D→sumD f (fun x=>if z=x then v else 0) D=if f z then v else 0
 |[],_,h=>by simp at h
 |x::D,hn,h=>by
  rw[List.nodup_cons]at hn
  by_cases e:z=x
  ·subst e;have ih:=sumD_zero f (fun x=>if z=x then v else 0) D fun y hy=>if_neg fun(e:z=y)=>hn.1 (by rw[e];exact hy);unfold sumD at ih ⊢;rw[List.map_cons,List.sum_cons,ih]
   simp
  ·have ih:=sumD_one f z v D hn.2 (by
    rcases List.mem_cons.1 h with h | h
    ·exact absurd h e
    ·exact h)
   unfold sumD at ih ⊢;rw[List.map_cons,List.sum_cons,ih];simp[e]
theorem sumD_tot (f:Int→Bool){D:LI}(hn:D.Nodup):∀zs:List (Int×Int),(∀p∈zs,p.1∈D)→sumD f (totP zs) D=(zs.map fun p=>if f p.1 then p.2 else 0).sum
 |[],_=>sumD_zero f _ D fun _ _=>rfl
 |p::zs,h=>by
  have e:totP (p::zs)=fun x=>(if p.1=x then p.2 else 0)+totP zs x:=by
   funext x;unfold totP;rw[List.map_cons,List.sum_cons]
  rw[e,sumD_add,sumD_one f p.1 p.2 D hn (h p (by simp)),sumD_tot f hn zs fun q hq=>h q (by simp[hq]),List.map_cons,List.sum_cons]
theorem lits_nodup (xs:LI):(litsOf xs).Nodup:=(lits_sorted xs).imp fun h e=>by rw[e,litLt_irr]at h;cases h
theorem sumG_norm (f:Int→Bool)(L W:LI):sumG f (litsOf L) ((litsOf L).map (totP (L.zip W)))=sumG f L W:=by
 rw[sumG_D,sumD_tot f (lits_nodup L) _ (fun p hp=>(lits_mem _ _).2 (List.of_mem_zip hp).1),sumG_zip]
theorem sumG_all:∀xs ys:LI,ys.length=xs.length→sumG (fun _=>true) xs ys=ys.sum
 |[],ys,h=>by
  have:ys=[]:=List.eq_nil_of_length_eq_zero (by simpa using h)
  subst this;rfl
 |_::_,[],h=>by simp at h
 |x::xs,y::ys,h=>by rw[sumG,sumG_all xs ys (by simpa using h),List.sum_cons];rfl
theorem totP_one:∀{zs:List (Int×Int)}{x:Int},x∈zs.map Prod.fst→(∀p∈zs,1≤p.2)→1≤totP zs x
 |[],x,h,_=>by simp at h
 |p::zs,x,h,hp=>by
  have h0:=totP_bd (zs:=zs) x fun q hq=>by have:=hp q (by simp[hq]);omega
  have h1:=hp p (by simp);have e:totP (p::zs) x=(if p.1=x then p.2 else 0)+totP zs x:=by unfold totP;rw[List.map_cons,List.sum_cons]
  rw[e];split
  ·omega
  ·rename_i hne
   have h2:=totP_one (zs:=zs) (x:=x) (by
    rw[List.map_cons]at h;rcases List.mem_cons.1 h with h | h
    ·exact absurd h.symm hne
    ·exact h) fun q hq=>hp q (by simp[hq])
   omega
theorem inc_lits {n:Int}{xs:LI}(h:∀a∈xs,1≤a∧a≤n):incB n (litsOf xs)=true:=by
 have hm:∀x∈litsOf xs,1≤x∧x≤n:=fun x hx=>h x ((lits_mem _ _).1 hx);unfold incB ordB;rw[Bool.and_eq_true,ordGo_iff,List.all_eq_true]
 exact⟨⟨fun x hx=>litB_iff.2 (by have:=hm x hx;omega),lits_sorted xs,fun y e=>by cases e⟩,fun x hx=>decide_eq_true (by have:=hm x hx;omega)⟩
theorem ord_lits {n:Int}{xs:LI}(h:∀x∈xs,litB x n=true):ordB n (litsOf xs)=true:=by
 unfold ordB;rw[ordGo_iff]
 exact⟨fun x hx=>h x ((lits_mem _ _).1 hx),lits_sorted xs,fun y e=>by cases e⟩
theorem wt_lits {xs ys:LI}(hl:ys.length=xs.length)(h:wtGo 0 ys=true):wtGo 0 ((litsOf xs).map (totP (xs.zip ys)))=true:=by
 have hw:=wtGo_spec ys 0 (by omega) (by omega) h;refine wtGo_of _ _ (fun y hy=>?_) ?_
 ·obtain⟨x,hx,rfl⟩:=List.mem_map.1 hy
  refine totP_one ?_ fun p hp=>hw.1 _ (List.of_mem_zip hp).2;rw[List.map_fst_zip (by omega)]
  exact(lits_mem _ _).1 hx
 ·have e:=sumG_norm (fun _=>true) xs ys;rw[sumG_all _ _ (by rw[List.length_map]),sumG_all _ _ hl]at e;rw[e];exact hw.2
theorem lits_ne {xs:LI}(h:xs≠[]):litsOf xs≠[]:=by
 obtain⟨x,hx⟩:=List.exists_mem_of_ne_nil _ h
 exact List.ne_nil_of_mem ((lits_mem x xs).2 hx)
theorem norm_is {r:GRule}{n:Int}(h:PreRule r n):RuleIs (normR r) n:=by
 refine⟨h.n0,h.n1,inc_lits h.head,fun hc=>lits_ne (h.choice hc),ord_lits h.body,fun hs=>?_,fun hs=>?_,fun hs=>?_,h.b0,h.b1⟩
 ·have hs:r.sum=false:=hs
  exact⟨by unfold normR;rw[hs];rfl,(h.plain hs).2⟩
 ·have hs:r.sum=true:=hs;unfold normR;rw[hs,if_pos rfl,List.length_map]
 ·have hs:r.sum=true:=hs;unfold normR;rw[hs,if_pos rfl];exact wt_lits (h.wlen hs) (h.wt hs)
section
variable {pm : LI} {n : Int}
theorem ord_lit {xs:LI}(h:ordB n xs=true):∀x∈xs,litB x n=true:=by
 unfold ordB at h;exact((ordGo_iff _ _ _).1 h).1
section
variable {f : Int → Int}
theorem all_lits (f:Int→Bool)(xs:LI):(litsOf xs).all f=xs.all f:=by
 rw[Bool.eq_iff_iff,List.all_eq_true,List.all_eq_true]
 exact⟨fun h x hx=>h x ((lits_mem _ _).2 hx),fun h x hx=>h x ((lits_mem _ _).1 hx)⟩
theorem any_lits (f:Int→Bool)(xs:LI):(litsOf xs).any f=xs.any f:=by
 rw[Bool.eq_iff_iff,List.any_eq_true,List.any_eq_true]
 exact⟨fun⟨x,hx,h⟩=>⟨x,(lits_mem _ _).1 hx,h⟩,fun⟨x,hx,h⟩=>⟨x,(lits_mem _ _).2 hx,h⟩⟩
theorem bodyM_norm (r:GRule)(m s:LI):bodyM (normR r) m s=bodyM r m s:=by
 unfold bodyM normR
 cases hs:r.sum with
 |true=>simp only[if_true];rw[sumG_norm]
 |false=>simp only[Bool.false_eq_true,if_false];exact all_lits _ _
end
end
open Go.RowKit
theorem all_nodup (p:GProg):(allL p).Nodup:=(all_sorted p).imp fun h e=>by rw[e,lexLt_irrefl]at h;cases h
open Go.RowKit
open Go.RowKit Go.Shelf

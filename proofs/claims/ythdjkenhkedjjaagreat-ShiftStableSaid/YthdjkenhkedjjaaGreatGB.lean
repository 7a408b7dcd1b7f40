/- GB -/
import Derived.Test.YthdjkenhkedjjaaGreatSrp
import Derived.Test.YthdjkenhkedjjaaGreatRd5
import Derived.Shelf.Abstract
import Derived.Shelf.RegionOpenPlain
set_option maxRecDepth 100000
set_option maxHeartbeats 8000000
namespace Go.Proofs.YthdjkenhkedjjaaGreat
open Go.RowKit Go.Shelf
structure SrtW (w0:World)(g n m:Nat)(W:World)(f:Nat→Int):Prop where
 kept:Kept [g] w0 W
 blk:Blk W g 3 (fnCells n f)
 lt:∀x,x<n→0≤f x∧f x<(m:Int)
section
variable {w0 W : World} {g n m : Nat} {f : Nat → Int}
theorem SrtW.bel {W':World}(h:SrtW w0 g n m W f)(hb:Below W.heap.size W W'):SrtW w0 g n m W' f:=⟨h.kept.bel hb,h.blk.bel hb,h.lt⟩
theorem SrtW.drew (h:SrtW w0 g n m W f):SrtW w0 g n m W.drew f:=⟨h.kept.drew,h.blk.drew,h.lt⟩
theorem SrtW.cell (h:SrtW w0 g n m W f){i:Nat}(hi:i<n):W.cell? ⟨g,i,none⟩=some (.int .i64 (f i)):=by rw[h.blk.cell,fnCells_get _ _ _ hi]
theorem SrtW.froz (h:SrtW w0 g n m W f)(i:Nat):W.frozen? ⟨g,i,none⟩=false:=h.blk.frozen i
theorem SrtW.swap (h:SrtW w0 g n m W f){i j:Nat}(hi:i<n)(hj:j<n)(hne:i≠j):SrtW w0 g n m ((W.setCell ⟨g,i,none⟩ (.int .i64 (f j))).setCell ⟨g,j,none⟩ (.int .i64 (f i))) (swapF f i j):=by
 refine⟨(h.kept.set (p:=⟨g,i,none⟩) (.inl (by simp)) _).set (p:=⟨g,j,none⟩) (.inl (by simp)) _,?_,fun x hx=>?_⟩
 ·have h1:=(h.blk.set_ i (.int .i64 (f j))).set_ j (.int .i64 (f i));rw[fnCells_set,fnCells_set]at h1;have e:(fun x=>if x=j then f i else if x=i then f j else f x)=swapF f i j:=swapF_two f hne;rw[e]at h1;exact h1
 ·unfold swapF;split
  ·exact h.lt j hj
  ·split
   ·exact h.lt i hi
   ·exact h.lt x hx
theorem SrtW.c2 (h:SrtW w0 g n m W f){i j:Nat}(hi:i<n)(hj:j<n)(v:Value):∃u,(W.setCell ⟨g,i,none⟩ v).cell? ⟨g,j,none⟩=some u:=by
 by_cases e:i=j
 ·subst e;exact⟨v,World.cell?_setCell_same _ _ _ (h.cell hi)⟩
 ·exact⟨_,(World.cell?_setCell_other _ _ _ _ (by intro e';simp only[Addr.mk.injEq]at e';omega)).trans (h.cell hj)⟩
end
theorem insSort_any (fid:FuncId)(cap:Array Value)(c:Int→Int→Int)(w0:World)(g n m:Nat)(hn:n≤1000000)(hc:CmpOk c)
  (hg:∀args W,(callFunc fid args).run Tryz.prog W=.ok (.enter fid args) W)
  (hcmp:∀(W:World) (i k:Int),Kept [g] w0 W→0≤i→i<m→0≤k→k<m→Calls Tryz.prog fid (#[.int .i64 i,.int .i64 k]++cap) W fun e w'=>e=.returned (.int .i64 (c i k))∧Below W.heap.size W w')
  (W:World) (f:Nat→Int) (a b:Nat) (h:SrtW w0 g n m W f) (hab:a≤b) (hbn:b≤n):
  Calls Tryz.prog 198 #[.slice (some ⟨g,0,none⟩) n n,.int .i64 (a:Int),.int .i64 (b:Int),.func (.func fid) #[] cap] W fun e w'=>e=.returned (.tuple #[])∧∃f',SrtW w0 g n m w' f'∧PermIn a b f f'∧SortedIn c f' a b:=by
 have a1:IntKind.i64.wrap ((a:Int)+1)=(a:Int)+1:=IntWalk.i64_in _ (by omega);have hc':=hc;have mixed:(Tryz.prog).follows .mixedOrders=true:=by kernel_rfl
 obtain⟨H,HC⟩:=Zq2 h hc;clear h hc
 go_enter Tryz.func198,Tryz.ntmps198;go_wp2_with fail;go_loopw [8] (fun t wr=>∃(i:Nat) (f1:Nat→Int),a+1≤i∧i≤b+1∧t=.int .i64 (i:Int)∧SrtW w0 g n m wr f1∧PermIn a b f f1∧SortedIn c f1 a i) (fun t _=>b+1-(intOf t).toNat)
 case atStart=>exact⟨a+1,f,Nat.le_refl _,by omega,by go_num,H.out,PermIn.refl _ _ _,fun i j h1 h2 h3=>by omega⟩
 case round=>
  obtain⟨i,f1,hi1,hi2,rfl,hw,hp,hs⟩:=hrel
  by_cases hlt:i<b
  ·have i1:(i:Int)<(b:Int):=(by omega);have hs0:=InsAt.start hs
   obtain⟨HW,HP,HS,HS0⟩:=Zq4 hw hp hs hs0;clear hw hp hs hs0
   go_wp2_with fail;go_loopw [9] (fun t wr=>∃(j:Nat) (f2:Nat→Int),a≤j∧j≤i∧t=.int .i64 (j:Int)∧SrtW w0 g n m wr f2∧PermIn a b f f2∧InsAt c f2 a i j) (fun t _=>(intOf t).toNat)
   case atStart=>exact⟨i,f1,by omega,Nat.le_refl _,rfl,HW.out,HP.out,HS0.out⟩
   case round=>
    obtain⟨j,f2,hj1,hj2,rfl,hw2,hp2,hin⟩:=hrel
    by_cases hja:a<j
    ·obtain⟨q,rfl⟩:∃q,j=q+1:=⟨j-1,by omega⟩
     have d1:decide ((a:Int)<(q:Int)+1)=true:=decide_eq_true (by omega);have cq:=hw2.cell (i:=q) (by omega);have cq1:=hw2.cell (i:=q+1) (by omega);have b1:=hw2.lt q (by omega);have b2:=hw2.lt (q+1) (by omega);have x0:(0:Int)≤(q:Int)+1:=(by omega);have x1:(q:Int)+1<(n:Int):=(by omega);have x2:(0:Int)≤(q:Int):=(by omega);have x3:(q:Int)<(n:Int):=(by omega);have x4:((q:Int)+1).toNat=q+1:=(by omega);have x5:IntKind.i64.wrap ((q:Int)+1-1)=(q:Int):=(by rw[IntWalk.i64_in _ (by omega)];omega);have hcu:=fun(u:Later wr)=>hcmp u.w _ _ (hw2.bel u.h).kept b2.1 b2.2 b1.1 b1.2
     by_cases hlv:c (f2 (q+1)) (f2 q)<0
     ·have d2:decide (c (f2 (q+1)) (f2 q)<0)=true:=decide_eq_true hlv
      obtain⟨HW2,HP2,HIN,HCU,HLV⟩:=Zq5 hw2 hp2 hin hcu hlv;clear hw2 hp2 hin hcu hlv
      go_wp2_with fail;refine wp_region_later [(⟨g,q+1,none⟩,.int .i64 (f2 (q+1))),(⟨g,q,none⟩,.int .i64 (f2 q))] (by kernel_rfl) (by kernel_rfl) (by simp[go_sem, *]) ?_;intro hk;simp only[List.forall_mem_cons]at hk;obtain⟨kk0,kk1,kz⟩:=hk;clear kz
      repeat go_big_quiet_step ((go_at_fn fid;exact Calls.later (HCU.out _)))
      refine wpQuiet_nil ?_;rintro w2 ⟨u1,rfl⟩;have hw3:=HW2.out.bel u1.h;have e1:=hw3.cell (i:=q+1) (by omega);have e2:=hw3.cell (i:=q) (by omega);have e4:=hw3.froz (q+1);have e5:=hw3.froz q
      obtain⟨uu,e3⟩:=hw3.c2 (i:=q+1) (j:=q) (by omega) (by omega) (.int .i64 (f2 q))
      have hw4:=(hw3.swap (i:=q+1) (j:=q) (by omega) (by omega) (by omega)).drew;have hin2:=HIN.out.step HC.out (by omega) hj2 HLV.out;have hp3:=HP2.out.trans (PermIn.swap (a:=a) (b:=b) (i:=q+1) (j:=q) f2 ⟨by omega,by omega⟩ ⟨by omega,by omega⟩);clear kk0 kk1 cq cq1;generalize u1.w=wu at *
      obtain⟨HW3,HW4,HIN2,HP3⟩:=Zq4 hw3 hw4 hin2 hp3;clear hw3 hw4 hin2 hp3
      go_wp2_with fail;go_big_region_o;generalize ((wu.setCell ⟨g,q+1,none⟩ (.int .i64 (f2 q))).setCell ⟨g,q,none⟩ (.int .i64 (f2 (q+1)))).drew=w5 at *;clear e1 e2 e3 e4 e5;go_wp2_with fail;go_roundw
      case rel=>exact⟨q,_,by omega,by omega,by go_num,HW4.out,HP3.out,HIN2.out⟩
      case measure=>simp[intOf]
     ·have d2:decide (c (f2 (q+1)) (f2 q)<0)=false:=decide_eq_false hlv;have hso:=hin.stop hc' (.inr hlv)
      obtain⟨HW2,HP2,HIN,HCU,HLV,HSO⟩:=Zq6 hw2 hp2 hin hcu hlv hso;clear hw2 hp2 hin hcu hlv hso
      go_wp2_with fail;refine wp_region_later [(⟨g,q+1,none⟩,.int .i64 (f2 (q+1))),(⟨g,q,none⟩,.int .i64 (f2 q))] (by kernel_rfl) (by kernel_rfl) (by simp[go_sem, *]) ?_;intro hk;simp only[List.forall_mem_cons]at hk;obtain⟨kk0,kk1,kz⟩:=hk;clear kz
      repeat go_big_quiet_step ((go_at_fn fid;exact Calls.later (HCU.out _)))
      refine wpQuiet_nil ?_;rintro w2 ⟨u1,rfl⟩;have hw3:=HW2.out.bel u1.h;clear kk0 kk1 cq cq1;generalize u1.w=wu at *;have HW3:=Zq1 hw3;clear hw3;go_wp2_with fail;go_roundw;exact⟨i+1,f2,by omega,by omega,by go_num,HW3.out,HP2.out,HSO.out⟩;simp[intOf];omega
    ·have hso:=hin.stop hc' (.inl (by omega));have d1:decide ((a:Int)<(j:Int))=false:=decide_eq_false (by omega)
     obtain⟨HW2,HP2,HIN,HSO⟩:=Zq4 hw2 hp2 hin hso;clear hw2 hp2 hin hso
     go_wp2_with fail;refine wp_region_later [] (by kernel_rfl) (by kernel_rfl) (by simp[go_sem, *]) ?_;intro _
     repeat go_big_quiet_step (fail)
     refine wpQuiet_nil ?_;rintro w2 ⟨u1,rfl⟩;have hw3:=HW2.out.bel u1.h;generalize u1.w=wu at *;have HW3:=Zq1 hw3;clear hw3;go_wp2_with fail;go_roundw;exact⟨i+1,f2,by omega,by omega,by go_num,HW3.out,HP2.out,HSO.out⟩;simp[intOf];omega
  ·have i1:¬(i:Int)<(b:Int):=(by omega);have hso:=hs.sub (Nat.le_refl a) (show b≤i by omega)
   obtain⟨HW,HP,HS,HSO⟩:=Zq4 hw hp hs hso;clear hw hp hs hso
   go_wp2_with fail;go_end0
   exact⟨rfl,_,HW.out,HP.out,HSO.out⟩
open Go.RowKit Go.Shelf
theorem swapR_any (fv:Value)(w0:World)(g n m:Nat)(hn:n≤1000000)(W:World)(f:Nat→Int)(a b k:Nat)(h:SrtW w0 g n m W f)(hab:a+k≤b)(hbn:b+k≤n):
  Calls Tryz.prog 208 #[.slice (some ⟨g,0,none⟩) n n,.int .i64 (a:Int),.int .i64 (b:Int),.int .i64 (k:Int),fv] W fun e w'=>e=.returned (.tuple #[])∧SrtW w0 g n m w' (swapsF f a b k):=by
 have mixed:(Tryz.prog).follows .mixedOrders=true:=by kernel_rfl
 have H:=Zq1 h;clear h;go_enter Tryz.func208,Tryz.ntmps208;go_wp2_with fail;go_loopw [10] (fun t wr=>∃(i:Nat),i≤k∧t=.int .i64 (i:Int)∧SrtW w0 g n m wr (swapsF f a b i)) (fun t _=>k-(intOf t).toNat)
 case atStart=>exact⟨0,by omega,rfl,by rw[swapsF_zero];exact H.out⟩
 case round=>
  obtain⟨i,hi,rfl,hw⟩:=hrel
  by_cases hlt:i<k
  ·have i1:(i:Int)<(k:Int):=(by omega);have e1:=hw.cell (i:=a+i) (by omega);have e2:=hw.cell (i:=b+i) (by omega);have e4:=hw.froz (a+i);have e5:=hw.froz (b+i)
   obtain⟨uu,e3⟩:=hw.c2 (i:=a+i) (j:=b+i) (by omega) (by omega) (.int .i64 (swapsF f a b i (b+i)))
   have hw4:=(hw.swap (i:=a+i) (j:=b+i) (by omega) (by omega) (by omega)).drew;rw[swapsF_step f hab hlt]at hw4;generalize swapsF f a b i=f1 at *;have x0:(0:Int)≤(a:Int)+(i:Int):=(by omega);have x1:(a:Int)+(i:Int)<(n:Int):=(by omega);have x2:(0:Int)≤(b:Int)+(i:Int):=(by omega);have x3:(b:Int)+(i:Int)<(n:Int):=(by omega);have x4:((a:Int)+(i:Int)).toNat=a+i:=(by omega);have x5:((b:Int)+(i:Int)).toNat=b+i:=(by omega);have x6:IntKind.i64.wrap ((a:Int)+(i:Int))=(a:Int)+(i:Int):=IntWalk.i64_in _ (by omega);have x7:IntKind.i64.wrap ((b:Int)+(i:Int))=(b:Int)+(i:Int):=IntWalk.i64_in _ (by omega)
   obtain⟨HW,HW4⟩:=Zq2 hw hw4;clear hw hw4
   go_wp2_with fail;go_big_region_o;generalize ((wr.setCell ⟨g,a+i,none⟩ (.int .i64 (f1 (b+i)))).setCell ⟨g,b+i,none⟩ (.int .i64 (f1 (a+i)))).drew=w5 at *;clear e1 e2 e3 e4 e5;go_wp2_with fail;go_roundw;exact⟨i+1,by omega,by go_num,HW4.out⟩;simp[intOf];omega
  ·have i1:¬(i:Int)<(k:Int):=(by omega);obtain rfl:i=k:=(by omega);have HW:=Zq1 hw;clear hw;go_wp2_with fail;go_end0
   exact⟨rfl,HW.out⟩
theorem rotate_any (fv:Value)(w0:World)(g n q:Nat)(hn:n≤1000000)(W:World)(f:Nat→Int)(a m b:Nat)(h:SrtW w0 g n q W f)(ham:a<m)(hmb:m<b)(hbn:b≤n):
  Calls Tryz.prog 206 #[.slice (some ⟨g,0,none⟩) n n,.int .i64 (a:Int),.int .i64 (m:Int),.int .i64 (b:Int),fv] W fun e w'=>e=.returned (.tuple #[])∧SrtW w0 g n q w' (rotF a m b f):=by
 have cS:=fun W f a b k h1 h2 h3=>swapR_any fv w0 g n q hn W f a b k h1 h2 h3
 obtain⟨i0,hi0,hi0'⟩:∃i0:Nat,m≤a+i0∧a+i0≤m:=⟨m-a,by omega,by omega⟩
 obtain⟨j0,hj0,hj0'⟩:∃j0:Nat,b≤m+j0∧m+j0≤b:=⟨b-m,by omega,by omega⟩
 have y1:IntKind.i64.wrap ((m:Int)-(a:Int))=(i0:Int):=by rw[IntWalk.i64_in _ (by omega)];omega
 have y2:IntKind.i64.wrap ((b:Int)-(m:Int))=(j0:Int):=by rw[IntWalk.i64_in _ (by omega)];omega
 have e0:rotF (m-i0) m (m+j0) f=rotF a m b f:=by rw[show m-i0=a by omega,show m+j0=b by omega]
 obtain⟨H,CS,E0⟩:=Zq3 h cS e0;clear h cS e0
 go_enter Tryz.func206,Tryz.ntmps206;go_wp2_with fail;go_loopw [10,11] (fun t s wr=>∃(i j:Nat) (f1:Nat→Int),0<i∧0<j∧i≤i0∧j≤j0∧t=.int .i64 (i:Int)∧s=.int .i64 (j:Int)∧SrtW w0 g n q wr f1∧rotF (m-i) m (m+j) f1=rotF a m b f) (fun t s _=>(intOf t).toNat+(intOf s).toNat)
 case atStart=>exact⟨i0,j0,f,by omega,by omega,Nat.le_refl _,Nat.le_refl _,by go_num,by go_num,H.out,E0.out⟩
 case round=>
  obtain⟨i,j,f1,hi,hj,hi2,hj2,rfl,rfl,hw,hr⟩:=hrel
  have z0:IntKind.i64.wrap ((m:Int)-(i:Int))=((m-i:Nat):Int):=by rw[IntWalk.i64_in _ (by omega)];omega
  by_cases hne:i=j
  ·subst hne;have n1:((i:Int) != (i:Int))=false:=(by simp);have cc:=CS.out wr f1 (m-i) m i hw (by omega) (by omega);rw[rot_same f1 (show i≤m by omega),hr]at cc
   obtain⟨HW,HR,CC⟩:=Zq3 hw hr cc;clear hw hr cc
   go_wp2_with fail;go_fit CC.out;rintro e w' ⟨rfl,hw2⟩;have HW2:=Zq1 hw2;clear hw2;go_wp2_with fail;go_end0
   exact⟨rfl,HW2.out⟩
  ·have n1:((i:Int) != (j:Int))=true:=by simp;omega
   by_cases hij:j<i
   ·have n2:(j:Int)<(i:Int):=(by omega);have z1:IntKind.i64.wrap ((i:Int)-(j:Int))=((i-j:Nat):Int):=(by rw[IntWalk.i64_in _ (by omega)];omega);have cc:=CS.out wr f1 (m-i) m j hw (by omega) (by omega);have hr2:=rot_left f1 hij (show i≤m by omega);rw[hr]at hr2
    obtain⟨HW,HR,CC,HR2⟩:=Zq4 hw hr cc hr2;clear hw hr cc hr2
    go_wp2_with fail;go_fit CC.out;rintro e w' ⟨rfl,hw2⟩;have HW2:=Zq1 hw2;clear hw2;go_wp2_with fail;go_roundw;exact⟨i-j,j,_,by omega,hj,by omega,hj2,by go_num,rfl,HW2.out,HR2.out⟩;simp[intOf];omega
   ·have n2:¬(j:Int)<(i:Int):=(by omega);have z1:IntKind.i64.wrap ((j:Int)-(i:Int))=((j-i:Nat):Int):=(by rw[IntWalk.i64_in _ (by omega)];omega);have z2:IntKind.i64.wrap ((m:Int)+(j:Int))=(m:Int)+(j:Int):=IntWalk.i64_in _ (by omega);have z3:IntKind.i64.wrap ((m:Int)+(j:Int)-(i:Int))=((m+j-i:Nat):Int):=(by rw[IntWalk.i64_in _ (by omega)];omega);have cc:=CS.out wr f1 (m-i) (m+j-i) i hw (by omega) (by omega);have hr2:=rot_right f1 (show i<j by omega) (show i≤m by omega);rw[hr]at hr2
    obtain⟨HW,HR,CC,HR2⟩:=Zq4 hw hr cc hr2;clear hw hr cc hr2
    go_wp2_with fail;go_fit CC.out;rintro e w' ⟨rfl,hw2⟩;have HW2:=Zq1 hw2;clear hw2;go_wp2_with fail;go_roundw;exact⟨i,j-i,_,hi,by omega,hi2,by omega,rfl,by go_num,HW2.out,HR2.out⟩;simp[intOf];omega
open Go.RowKit Go.Shelf
def SymPost (c:Int→Int→Int)(w0:World)(g n q a b:Nat)(f:Nat→Int)(e:Ending)(w':World):Prop:=e=.returned (.tuple #[])∧∃f',SrtW w0 g n q w' f'∧PermIn a b f f'∧SortedIn c f' a b
theorem sym1_any (fid:FuncId)(cap:Array Value)(c:Int→Int→Int)(w0:World)(g n q:Nat)(hn:n≤1000000)(hc:CmpOk c)
  (hg:∀args W,(callFunc fid args).run Tryz.prog W=.ok (.enter fid args) W)
  (hcmp:∀(W:World) (i k:Int),Kept [g] w0 W→0≤i→i<q→0≤k→k<q→Calls Tryz.prog fid (#[.int .i64 i,.int .i64 k]++cap) W fun e w'=>e=.returned (.int .i64 (c i k))∧Below W.heap.size W w')
  (W:World) (f:Nat→Int) (a b:Nat) (h:SrtW w0 g n q W f) (hab:a+1<b) (hbn:b≤n) (h2:SortedIn c f (a+1) b):
  Calls Tryz.prog 199 #[.slice (some ⟨g,0,none⟩) n n,.int .i64 (a:Int),.int .i64 ((a+1:Nat):Int),.int .i64 (b:Int),.func (.func fid) #[] cap] W (SymPost c w0 g n q a b f):=by
 have hc':=hc;have mixed:(Tryz.prog).follows .mixedOrders=true:=by kernel_rfl
 have y1:IntKind.i64.wrap ((a:Int)+1-(a:Int))=1:=by rw[IntWalk.i64_in _ (by omega)];omega
 have y2:(a:Int)+1-(a:Int)=1:=(by omega)
 obtain⟨H,HC,H2⟩:=Zq3 h hc h2;clear h hc h2
 go_enter Tryz.func199,Tryz.ntmps199;go_wp2_with fail;go_loopw [10,11] (fun t s wr=>∃(i j:Nat),a+1≤i∧i≤j∧j≤b∧t=.int .i64 (i:Int)∧s=.int .i64 (j:Int)∧SrtW w0 g n q wr f∧(∀x,a<x→x<i→c (f x) (f a)<0)∧(∀x,j≤x→x<b→¬c (f x) (f a)<0)) (fun t s _=>(intOf s).toNat-(intOf t).toNat)
 case atStart=>exact⟨a+1,b,Nat.le_refl _,by omega,Nat.le_refl _,by go_num,rfl,H.out,fun x h1 h2=>by omega,fun x h1 h2=>by omega⟩
 case round=>
  obtain⟨i,j,hi,hij,hj,rfl,rfl,hw,hl,hr⟩:=hrel
  by_cases hlt:i<j
  ·have i1:(i:Int)<(j:Int):=(by omega)
   obtain⟨k,hk1,hk2⟩:∃k:Nat,2*k≤i+j∧i+j<2*k+2:=⟨(i+j) / 2,by omega,by omega⟩
   have hk0:((i:Int)+(j:Int)) / 2=(k:Int):=(by omega);have hsrt:=H2.out;have ca:=hw.cell (i:=k) (by omega);have cb:=hw.cell (i:=a) (by omega);have b1:=hw.lt k (by omega);have b2:=hw.lt a (by omega);have hcu:=fun(u:Later wr)=>hcmp u.w _ _ (hw.bel u.h).kept b1.1 b1.2 b2.1 b2.2;have x0:(0:Int)≤(k:Int):=(by omega);have x1:(k:Int)<(n:Int):=(by omega);have x2:(0:Int)≤(a:Int):=(by omega);have x3:(a:Int)<(n:Int):=(by omega)
   by_cases hlv:c (f k) (f a)<0
   ·have d2:decide (c (f k) (f a)<0)=true:=decide_eq_true hlv;have hl2:∀x,a<x→x<k+1→c (f x) (f a)<0:=fun x h1 h2=>hc'.lt_of (hsrt.le hc' (show a+1≤x by omega) (show x≤k by omega) (by omega)) hlv
    obtain⟨HW,HL,HR,HCU,HL2,HLV,HSRT⟩:=Zq7 hw hl hr hcu hl2 hlv hsrt;clear hw hl hr hcu hl2 hlv hsrt
    go_wp2_with fail;refine wp_region_later [(⟨g,k,none⟩,.int .i64 (f k)),(⟨g,a,none⟩,.int .i64 (f a))] (by kernel_rfl) (by kernel_rfl) (by simp[go_sem, *]) ?_;intro hk;simp only[List.forall_mem_cons]at hk;obtain⟨kk0,kk1,kz⟩:=hk;clear kz
    repeat go_big_quiet_step ((go_at_fn fid;exact Calls.later (HCU.out _)))
    refine wpQuiet_nil ?_;rintro w2 ⟨u1,rfl⟩;have hw3:=HW.out.bel u1.h;clear kk0 kk1 ca cb hk0;generalize u1.w=wu at *;have HW3:=Zq1 hw3;clear hw3;go_wp2_with fail;go_roundw;exact⟨k+1,by omega,j,by omega,hj,by go_num,rfl,HW3.out,HL2.out,HR.out⟩;simp[intOf];omega
   ·have d2:decide (c (f k) (f a)<0)=false:=decide_eq_false hlv;have hr2:∀x,k≤x→x<b→¬c (f x) (f a)<0:=fun x h1 h2=>hc'.ntrans _ _ _ hlv (hsrt.le hc' (show a+1≤k by omega) h1 h2)
    obtain⟨HW,HL,HR,HCU,HR2,HLV,HSRT⟩:=Zq7 hw hl hr hcu hr2 hlv hsrt;clear hw hl hr hcu hr2 hlv hsrt
    go_wp2_with fail;refine wp_region_later [(⟨g,k,none⟩,.int .i64 (f k)),(⟨g,a,none⟩,.int .i64 (f a))] (by kernel_rfl) (by kernel_rfl) (by simp[go_sem, *]) ?_;intro hk;simp only[List.forall_mem_cons]at hk;obtain⟨kk0,kk1,kz⟩:=hk;clear kz
    repeat go_big_quiet_step ((go_at_fn fid;exact Calls.later (HCU.out _)))
    refine wpQuiet_nil ?_;rintro w2 ⟨u1,rfl⟩;have hw3:=HW.out.bel u1.h;clear kk0 kk1 ca cb hk0;generalize u1.w=wu at *;have HW3:=Zq1 hw3;clear hw3;go_wp2_with fail;go_roundw;exact⟨i,hi,k,by omega,by omega,rfl,by go_num,HW3.out,HL.out,HR2.out⟩;simp[intOf];omega
  ·have i1:¬(i:Int)<(j:Int):=(by omega);have hij2:j≤i:=(by omega);have hr2:∀x,i≤x→x<b→¬c (f x) (f a)<0:=fun x h1 h2=>hr x (by omega) h2;have hib:i≤b:=(by omega);have hfin:=up_sorted hc' H2.out (show a<i by omega) hib hl hr2;have hper:=up_perm f (a:=a) (b:=b) (i-1) (by omega) (by omega)
   obtain⟨p,hp1,hp2⟩:∃p:Nat,i≤p+1∧p+1≤i:=⟨i-1,by omega,by omega⟩
   have hpe:i-1=p:=(by omega);rw[hpe]at hfin hper;clear hpe;have z1:IntKind.i64.wrap ((i:Int)-1)=(p:Int):=(by rw[IntWalk.i64_in _ (by omega)];omega);have z2:(i:Int)-1=(p:Int):=(by omega)
   obtain⟨HW,HL,HR,HR2,HFIN,HPER⟩:=Zq6 hw hl hr hr2 hfin hper;clear hw hl hr hr2 hfin hper
   go_wp2_with fail;go_loopw [13] (fun t wr=>∃(k:Nat),a≤k∧k≤p∧t=.int .i64 (k:Int)∧SrtW w0 g n q wr (upF f a k)) (fun t _=>p-(intOf t).toNat)
   case atStart=>exact⟨a,Nat.le_refl _,by omega,rfl,by rw[upF_zero];exact HW.out⟩
   case round=>
    obtain⟨k,hk1,hk2,rfl,hw⟩:=hrel
    by_cases hlt2:k<p
    ·have i2:(k:Int)<(p:Int):=(by omega);have e1:=hw.cell (i:=k) (by omega);have e2:=hw.cell (i:=k+1) (by omega);have e4:=hw.froz k;have e5:=hw.froz (k+1)
     obtain⟨uu,e3⟩:=hw.c2 (i:=k) (j:=k+1) (by omega) (by omega) (.int .i64 (upF f a k (k+1)))
     have hw4:=(hw.swap (i:=k) (j:=k+1) (by omega) (by omega) (by omega)).drew;rw[upF_step f hk1]at hw4;generalize upF f a k=f1 at *;have x0:(0:Int)≤(k:Int):=(by omega);have x1:(k:Int)<(n:Int):=(by omega);have x2:(0:Int)≤(k:Int)+1:=(by omega);have x3:(k:Int)+1<(n:Int):=(by omega);have x4:((k:Int)+1).toNat=k+1:=(by omega);have x6:IntKind.i64.wrap ((k:Int)+1)=(k:Int)+1:=IntWalk.i64_in _ (by omega)
     obtain⟨HW,HW4⟩:=Zq2 hw hw4;clear hw hw4
     go_wp2_with fail;go_big_region_o;generalize ((wr.setCell ⟨g,k,none⟩ (.int .i64 (f1 (k+1)))).setCell ⟨g,k+1,none⟩ (.int .i64 (f1 k))).drew=w5 at *;clear e1 e2 e3 e4 e5;go_wp2_with fail;go_roundw;exact⟨k+1,by omega,by omega,by go_num,HW4.out⟩;simp[intOf];omega
    ·have i2:¬(k:Int)<(p:Int):=(by omega);obtain rfl:k=p:=(by omega);have HW:=Zq1 hw;clear hw;go_wp2_with fail;go_end0
     exact⟨rfl,_,HW.out,HPER.out,HFIN.out⟩
theorem sym2_any (fid:FuncId)(cap:Array Value)(c:Int→Int→Int)(w0:World)(g n q:Nat)(hn:n≤1000000)(hc:CmpOk c)
  (hg:∀args W,(callFunc fid args).run Tryz.prog W=.ok (.enter fid args) W)
  (hcmp:∀(W:World) (i k:Int),Kept [g] w0 W→0≤i→i<q→0≤k→k<q→Calls Tryz.prog fid (#[.int .i64 i,.int .i64 k]++cap) W fun e w'=>e=.returned (.int .i64 (c i k))∧Below W.heap.size W w')
  (W:World) (f:Nat→Int) (a m:Nat) (h:SrtW w0 g n q W f) (ham:a+1<m) (hbn:m+1≤n) (h2:SortedIn c f a m):
  Calls Tryz.prog 199 #[.slice (some ⟨g,0,none⟩) n n,.int .i64 (a:Int),.int .i64 (m:Int),.int .i64 ((m+1:Nat):Int),.func (.func fid) #[] cap] W (SymPost c w0 g n q a (m+1) f):=by
 have hc':=hc;have mixed:(Tryz.prog).follows .mixedOrders=true:=by kernel_rfl
 have y0:IntKind.i64.wrap ((m:Int)-(a:Int))=(m:Int)-(a:Int):=IntWalk.i64_in _ (by omega);have y3:((m:Int)-(a:Int)==1)=false:=by simp;omega
 have y1:IntKind.i64.wrap ((m:Int)+1-(m:Int))=1:=by rw[IntWalk.i64_in _ (by omega)];omega
 have y2:(m:Int)+1-(m:Int)=1:=(by omega)
 obtain⟨H,HC,H2⟩:=Zq3 h hc h2;clear h hc h2
 go_enter Tryz.func199,Tryz.ntmps199;go_wp2_with fail;go_loopw [14,15] (fun t s wr=>∃(i j:Nat),a≤i∧i≤j∧j≤m∧t=.int .i64 (i:Int)∧s=.int .i64 (j:Int)∧SrtW w0 g n q wr f∧(∀x,a≤x→x<i→¬c (f m) (f x)<0)∧(∀x,j≤x→x<m→c (f m) (f x)<0)) (fun t s _=>(intOf s).toNat-(intOf t).toNat)
 case atStart=>exact⟨a,m,Nat.le_refl _,by omega,Nat.le_refl _,rfl,rfl,H.out,fun x h1 h2=>by omega,fun x h1 h2=>by omega⟩
 case round=>
  obtain⟨i,j,hi,hij,hj,rfl,rfl,hw,hl,hr⟩:=hrel
  by_cases hlt:i<j
  ·have i1:(i:Int)<(j:Int):=(by omega)
   obtain⟨k,hk1,hk2⟩:∃k:Nat,2*k≤i+j∧i+j<2*k+2:=⟨(i+j) / 2,by omega,by omega⟩
   have hk0:((i:Int)+(j:Int)) / 2=(k:Int):=(by omega);have hsrt:=H2.out;have ca:=hw.cell (i:=m) (by omega);have cb:=hw.cell (i:=k) (by omega);have b1:=hw.lt m (by omega);have b2:=hw.lt k (by omega);have hcu:=fun(u:Later wr)=>hcmp u.w _ _ (hw.bel u.h).kept b1.1 b1.2 b2.1 b2.2;have x0:(0:Int)≤(k:Int):=(by omega);have x1:(k:Int)<(n:Int):=(by omega);have x2:(0:Int)≤(m:Int):=(by omega);have x3:(m:Int)<(n:Int):=(by omega)
   by_cases hlv:c (f m) (f k)<0
   ·have d2:decide (c (f m) (f k)<0)=true:=decide_eq_true hlv;have hr2:∀x,k≤x→x<m→c (f m) (f x)<0:=fun x h1 h2=>hc'.lt_of2 hlv (hsrt.le hc' (show a≤k by omega) h1 h2)
    obtain⟨HW,HL,HR,HCU,HR2,HLV,HSRT⟩:=Zq7 hw hl hr hcu hr2 hlv hsrt;clear hw hl hr hcu hr2 hlv hsrt
    go_wp2_with fail;refine wp_region_later [(⟨g,m,none⟩,.int .i64 (f m)),(⟨g,k,none⟩,.int .i64 (f k))] (by kernel_rfl) (by kernel_rfl) (by simp[go_sem, *]) ?_;intro hk;simp only[List.forall_mem_cons]at hk;obtain⟨kk0,kk1,kz⟩:=hk;clear kz
    repeat go_big_quiet_step ((go_at_fn fid;exact Calls.later (HCU.out _)))
    refine wpQuiet_nil ?_;rintro w2 ⟨u1,rfl⟩;have hw3:=HW.out.bel u1.h;clear kk0 kk1 ca cb hk0;generalize u1.w=wu at *;have HW3:=Zq1 hw3;clear hw3;go_wp2_with fail;go_roundw;exact⟨i,hi,k,by omega,by omega,rfl,by go_num,HW3.out,HL.out,HR2.out⟩;simp[intOf];omega
   ·have d2:decide (c (f m) (f k)<0)=false:=decide_eq_false hlv;have hl2:∀x,a≤x→x<k+1→¬c (f m) (f x)<0:=fun x h1 h2=>hc'.ntrans _ _ _ (hsrt.le hc' h1 (show x≤k by omega) (by omega)) hlv
    obtain⟨HW,HL,HR,HCU,HL2,HLV,HSRT⟩:=Zq7 hw hl hr hcu hl2 hlv hsrt;clear hw hl hr hcu hl2 hlv hsrt
    go_wp2_with fail;refine wp_region_later [(⟨g,m,none⟩,.int .i64 (f m)),(⟨g,k,none⟩,.int .i64 (f k))] (by kernel_rfl) (by kernel_rfl) (by simp[go_sem, *]) ?_;intro hk;simp only[List.forall_mem_cons]at hk;obtain⟨kk0,kk1,kz⟩:=hk;clear kz
    repeat go_big_quiet_step ((go_at_fn fid;exact Calls.later (HCU.out _)))
    refine wpQuiet_nil ?_;rintro w2 ⟨u1,rfl⟩;have hw3:=HW.out.bel u1.h;clear kk0 kk1 ca cb hk0;generalize u1.w=wu at *;have HW3:=Zq1 hw3;clear hw3;go_wp2_with fail;go_roundw;exact⟨k+1,by omega,j,by omega,hj,by go_num,rfl,HW3.out,HL2.out,HR.out⟩;simp[intOf];omega
  ·have i1:¬(i:Int)<(j:Int):=(by omega);have hij2:j≤i:=(by omega);have hr2:∀x,i≤x→x<m→c (f m) (f x)<0:=fun x h1 h2=>hr x (by omega) h2;have him:i≤m:=(by omega);have hfin:=down_sorted hc' H2.out hi him hl hr2;have hper:=down_perm f (a:=a) (m:=m) (m-i) (by omega);rw[show m-(m-i)=i by omega]at hper
   obtain⟨HW,HL,HR,HR2,HFIN,HPER⟩:=Zq6 hw hl hr hr2 hfin hper;clear hw hl hr hr2 hfin hper
   go_wp2_with fail;go_loopw [17] (fun t wr=>∃(k:Nat),i≤k∧k≤m∧t=.int .i64 (k:Int)∧SrtW w0 g n q wr (downF f m k)) (fun t _=>(intOf t).toNat)
   case atStart=>exact⟨m,him,Nat.le_refl _,rfl,by rw[downF_zero];exact HW.out⟩
   case round=>
    obtain⟨k0,hk1,hk2,rfl,hw⟩:=hrel
    by_cases hlt2:i<k0
    ·obtain⟨k,rfl⟩:∃k,k0=k+1:=⟨k0-1,by omega⟩
     have i2:(i:Int)<(k:Int)+1:=(by omega);have e1:=hw.cell (i:=k+1) (by omega);have e2:=hw.cell (i:=k) (by omega);have e4:=hw.froz (k+1);have e5:=hw.froz k
     obtain⟨uu,e3⟩:=hw.c2 (i:=k+1) (j:=k) (by omega) (by omega) (.int .i64 (downF f m (k+1) k))
     have hw4:=(hw.swap (i:=k+1) (j:=k) (by omega) (by omega) (by omega)).drew;have hds:=downF_step f hk2 (by omega);rw[show k+1-1=k from rfl]at hds;rw[hds]at hw4;clear hds;generalize downF f m (k+1)=f1 at *;have x0:(0:Int)≤(k:Int):=(by omega);have x1:(k:Int)<(n:Int):=(by omega);have x2:(0:Int)≤(k:Int)+1:=(by omega);have x3:(k:Int)+1<(n:Int):=(by omega);have x4:((k:Int)+1).toNat=k+1:=(by omega);have x6:IntKind.i64.wrap ((k:Int)+1-1)=(k:Int):=(by rw[IntWalk.i64_in _ (by omega)];omega)
     obtain⟨HW,HW4⟩:=Zq2 hw hw4;clear hw hw4
     go_wp2_with fail;go_big_region_o;generalize ((wr.setCell ⟨g,k+1,none⟩ (.int .i64 (f1 k))).setCell ⟨g,k,none⟩ (.int .i64 (f1 (k+1)))).drew=w5 at *;clear e1 e2 e3 e4 e5;go_wp2_with fail;go_roundw
     case rel=>exact⟨k,by omega,by omega,by go_num,HW4.out⟩
     case measure=>simp[intOf]
    ·have i2:¬(i:Int)<(k0:Int):=(by omega);obtain rfl:k0=i:=(by omega);have HW:=Zq1 hw;clear hw;go_wp2_with fail;go_end0
     exact⟨rfl,_,HW.out,HPER.out,HFIN.out⟩
open Go.RowKit Go.Shelf
theorem rot_perm:∀(s i j m:Nat)(f:Nat→Int),i+j≤s→0<i→0<j→i≤m→PermIn (m-i) (m+j) f (rotF (m-i) m (m+j) f)
 |0,i,j,m,f,h,hi,_,_=>by omega
 |s+1,i,j,m,f,h,hi,hj,hm=>by
  rcases Nat.lt_trichotomy i j with c | c | c
  ·rw[← rot_right f c hm];have h1:=swaps_perm f (a:=m-i) (b:=m+j-i) (n:=i) (lo:=m-i) (hi:=m+j) (by omega) (Nat.le_refl _) (by omega) i (Nat.le_refl _);exact h1.trans ((rot_perm s i (j-i) m _ (by omega) hi (by omega) hm).mono (Nat.le_refl _) (by omega))
  ·subst c;rw[← rot_same f hm];exact swaps_perm f (by omega) (Nat.le_refl _) (by omega) i (Nat.le_refl _)
  ·rw[← rot_left f c hm];have h1:=swaps_perm f (a:=m-i) (b:=m) (n:=j) (lo:=m-i) (hi:=m+j) (by omega) (Nat.le_refl _) (by omega) j (Nat.le_refl _);exact h1.trans ((rot_perm s (i-j) j m _ (by omega) (by omega) hj (by omega)).mono (by omega) (Nat.le_refl _))
theorem rotF_left (f:Nat→Int)(m e:Nat):rotF m m e f=f:=by
 funext x;unfold rotF
 by_cases h:x<m∨e≤x
 ·rw[if_pos h]
 ·rw[if_neg h,if_pos (by omega)];congr 1;omega
theorem rotF_right (f:Nat→Int)(st m:Nat):rotF st m m f=f:=by
 funext x;unfold rotF
 by_cases h:x<st∨m≤x
 ·rw[if_pos h]
 ·rw[if_neg h,if_neg (by omega)];congr 1;omega
theorem rot_perm2 (f:Nat→Int){a st m e b:Nat}(h1:a≤st)(h2:st≤m)(h3:m≤e)(h4:e≤b):PermIn a b f (rotF st m e f):=by
 by_cases c1:st=m
 ·subst c1;rw[rotF_left];exact PermIn.refl _ _ _
 ·by_cases c2:e=m
  ·subst c2;rw[rotF_right];exact PermIn.refl _ _ _
  ·have h:=rot_perm (m-st+(e-m)) (m-st) (e-m) m f (Nat.le_refl _) (by omega) (by omega) (by omega);rw[show m-(m-st)=st by omega,show m+(e-m)=e by omega]at h;exact h.mono h1 h4
structure RotOk (c:Int→Int→Int)(f fr:Nat→Int)(a b mid st e:Nat):Prop where
 perm:PermIn a b f fr
 s1:SortedIn c fr a st
 s2:SortedIn c fr st mid
 s3:SortedIn c fr mid e
 s4:SortedIn c fr e b
 hx:∀x y,a≤x→x<mid→mid≤y→y<b→¬c (fr y) (fr x)<0
theorem RotOk.left {c:Int→Int→Int}{f fr:Nat→Int}{a b mid st e:Nat}(h:RotOk c f fr a b mid st e)(h1:st≤a∨mid≤st)(h2:a≤st)(h3:st≤mid):SortedIn c fr a mid:=by
 rcases h1 with h1 | h1
 ·obtain rfl:st=a:=(by omega);exact h.s2
 ·obtain rfl:st=mid:=(by omega);exact h.s1
theorem RotOk.right {c:Int→Int→Int}{f fr f1:Nat→Int}{a b mid st e:Nat}(h:RotOk c f fr a b mid st e)(hp:PermIn a mid fr f1)(h1:e≤mid∨b≤e)(h2:mid≤e)(h3:e≤b):SortedIn c f1 mid b:=by
 refine SortedIn.congr (f:=fr) ?_ (fun x hx _=>hp.out x (by omega));rcases h1 with h1 | h1
 ·obtain rfl:e=mid:=(by omega);exact h.s4
 ·obtain rfl:e=b:=(by omega);exact h.s3
theorem RotOk.fin {c:Int→Int→Int}{f fr f1 f2:Nat→Int}{a b mid st e:Nat}(h:RotOk c f fr a b mid st e)(hp1:PermIn a mid fr f1)(hp2:PermIn mid b f1 f2)(s1:SortedIn c f1 a mid)(s2:SortedIn c f2 mid b)(ha:a≤mid)(hb:mid≤b):PermIn a b f f2∧SortedIn c f2 a b:=
 ⟨(h.perm.trans (hp1.mono (Nat.le_refl _) hb)).trans (hp2.mono ha (Nat.le_refl _)),sym_join hp1 hp2 s1 s2 h.hx⟩
theorem sym3_any (fid:FuncId)(cap:Array Value)(c:Int→Int→Int)(w0:World)(g n q:Nat)(hn:n≤1000000)(hc:CmpOk c)
  (hg:∀args W,(callFunc fid args).run Tryz.prog W=.ok (.enter fid args) W)
  (hcmp:∀(W:World) (i k:Int),Kept [g] w0 W→0≤i→i<q→0≤k→k<q→Calls Tryz.prog fid (#[.int .i64 i,.int .i64 k]++cap) W fun e w'=>e=.returned (.int .i64 (c i k))∧Below W.heap.size W w')
  (d:Nat) (ih:∀(W:World) (f:Nat→Int) (a m b:Nat),b-a<d→SrtW w0 g n q W f→a<m→m<b→b≤n→SortedIn c f a m→SortedIn c f m b→Calls Tryz.prog 199 #[.slice (some ⟨g,0,none⟩) n n,.int .i64 (a:Int),.int .i64 (m:Int),.int .i64 (b:Int),.func (.func fid) #[] cap] W (SymPost c w0 g n q a b f))
  (W:World) (f:Nat→Int) (a m b:Nat) (hd:b-a≤d) (h:SrtW w0 g n q W f) (ham1:a+1<m) (hmb1:m+1<b) (hbn:b≤n) (hs1:SortedIn c f a m) (hs2:SortedIn c f m b):
  Calls Tryz.prog 199 #[.slice (some ⟨g,0,none⟩) n n,.int .i64 (a:Int),.int .i64 (m:Int),.int .i64 (b:Int),.func (.func fid) #[] cap] W (SymPost c w0 g n q a b f):=by
 have hc':=hc;have ham:a<m:=(by omega);have hmb:m<b:=(by omega);have y0:IntKind.i64.wrap ((m:Int)-(a:Int))=(m:Int)-(a:Int):=IntWalk.i64_in _ (by omega);have y3:((m:Int)-(a:Int)==1)=false:=by simp;omega
 have y1:IntKind.i64.wrap ((b:Int)-(m:Int))=(b:Int)-(m:Int):=IntWalk.i64_in _ (by omega);have y4:((b:Int)-(m:Int)==1)=false:=by simp;omega
 obtain⟨mid,hmid⟩:∃mid:Nat,mid=(a+b) / 2:=⟨_,rfl⟩
 have hmid1:2*mid≤a+b∧a+b<2*mid+2:=(by omega)
 obtain⟨hmd1,hmd2⟩:=hmid1
 have q0:((a:Int)+(b:Int)) / 2=(mid:Int):=(by omega)
 obtain⟨N,hnn⟩:∃N:Nat,N=mid+m:=⟨_,rfl⟩
 have hN1:N≤mid+m:=(by omega);have hN2:mid+m≤N:=(by omega);have q1:(mid:Int)+(m:Int)=(N:Int):=(by omega);have q2:IntKind.i64.wrap ((N:Int)-1)=(N:Int)-1:=IntWalk.i64_in _ (by omega)
 by_cases hmm:mid<m
 ·obtain⟨lo,hlo⟩:∃lo:Nat,lo=if mid<m then N-b else a:=⟨_,rfl⟩
  have hhi:mid=if mid<m then mid else m:=by rw[if_pos hmm]
  have hlo1:lo=N-b:=by rw[hlo,if_pos hmm]
  have hlh:lo≤mid∧a≤lo∧mid≤m∧mid≤mid∧N≤lo+b:=(by omega);have w1:(mid:Int)<(m:Int):=(by omega);have w2:IntKind.i64.wrap ((N:Int)-(b:Int))=(lo:Int):=by rw[IntWalk.i64_in _ (by omega)];omega
  have w2':(N:Int)-(b:Int)=(lo:Int):=(by omega);clear hlo1
  obtain⟨H,HC,HS1,HS2,HMID,HNN,HLO,HHI,HLH,IH,HD⟩:=Zq11 h hc hs1 hs2 hmid hnn hlo hhi hlh ih hd;clear h hc hs1 hs2 hmid hnn hlo hhi hlh ih hd
  go_enter Tryz.func199,Tryz.ntmps199;go_wp2_with fail;clear w2 w2' q0 q1 q2;go_loopw [20,21] (fun t s wr=>∃(st r:Nat),SymAt c f lo mid N st r∧t=.int .i64 (st:Int)∧s=.int .i64 (r:Int)∧SrtW w0 g n q wr f) (fun t s _=>(intOf s).toNat-(intOf t).toNat)
  case atStart=>exact⟨lo,mid,⟨Nat.le_refl _,HLH.out.1,Nat.le_refl _,fun x h1 h2=>by omega,fun x h1 h2=>by omega⟩,rfl,rfl,H.out⟩
  case round=>
   obtain⟨st,r,hsy,rfl,rfl,hw⟩:=hrel
   have sy1:=hsy.b1;have sy2:=hsy.b2;have sy3:=hsy.b3
   obtain⟨lh1,lh2,lh3,lh4,lh5⟩:=HLH.out
   by_cases hlt:st<r
   ·have i1:(st:Int)<(r:Int):=(by omega)
    obtain⟨k,hk1,hk2⟩:∃k:Nat,2*k≤st+r∧st+r<2*k+2:=⟨(st+r) / 2,by omega,by omega⟩
    have hk0:((st:Int)+(r:Int)) / 2=(k:Int):=(by omega)
    obtain⟨pk,hpk1,hpk2⟩:∃pk:Nat,pk+k+1≤N∧N≤pk+k+1:=⟨N-1-k,by omega,by omega⟩
    have hpe:N-1-k=pk:=(by omega);have zc:IntKind.i64.wrap ((N:Int)-1-(k:Int))=(pk:Int):=(by rw[IntWalk.i64_in _ (by omega)];omega);have zd:(N:Int)-1-(k:Int)=(pk:Int):=(by omega);have ca:=hw.cell (i:=pk) (by omega);have cb:=hw.cell (i:=k) (by omega);have b1:=hw.lt pk (by omega);have b2:=hw.lt k (by omega);have hcu:=fun(u:Later wr)=>hcmp u.w _ _ (hw.bel u.h).kept b1.1 b1.2 b2.1 b2.2;have x0:(0:Int)≤(k:Int):=(by omega);have x1:(k:Int)<(n:Int):=(by omega);have x2:(0:Int)≤(pk:Int):=(by omega);have x3:(pk:Int)<(n:Int):=(by omega)
    by_cases hlv:c (f pk) (f k)<0
    ·have d2:decide (c (f pk) (f k)<0)=true:=decide_eq_true hlv;have hsy2:=hsy.less hc' HS1.out HS2.out ham hmb HMID.out HNN.out HLO.out HHI.out (h:=k) (by omega) (by omega) (by rw[hpe];exact hlv);clear hpe
     obtain⟨HW,HSY,HCU,HLV,HSY2⟩:=Zq5 hw hsy hcu hlv hsy2;clear hw hsy hcu hlv hsy2
     go_wp2_with fail;refine wp_region_later [(⟨g,pk,none⟩,.int .i64 (f pk)),(⟨g,k,none⟩,.int .i64 (f k))] (by kernel_rfl) (by kernel_rfl) (by simp[go_sem, *]) ?_;intro hk;simp only[List.forall_mem_cons]at hk;obtain⟨kk0,kk1,kz⟩:=hk;clear kz
     repeat go_big_quiet_step ((go_at_fn fid;exact Calls.later (HCU.out _)))
     refine wpQuiet_nil ?_;rintro w2 ⟨u1,rfl⟩;have hw3:=HW.out.bel u1.h;clear kk0 kk1 ca cb hk0 zc;generalize u1.w=wu at *;clear zd;have HW3:=Zq1 hw3;clear hw3;go_wp2_with fail;go_roundw;exact⟨st,k,HSY2.out,rfl,by go_num,HW3.out⟩;simp[intOf];omega
    ·have d2:decide (c (f pk) (f k)<0)=false:=decide_eq_false hlv;have hsy2:=hsy.more hc' HS1.out HS2.out ham hmb HMID.out HNN.out HLO.out HHI.out (h:=k) (by omega) (by omega) (by rw[hpe];exact hlv);clear hpe
     obtain⟨HW,HSY,HCU,HLV,HSY2⟩:=Zq5 hw hsy hcu hlv hsy2;clear hw hsy hcu hlv hsy2
     go_wp2_with fail;refine wp_region_later [(⟨g,pk,none⟩,.int .i64 (f pk)),(⟨g,k,none⟩,.int .i64 (f k))] (by kernel_rfl) (by kernel_rfl) (by simp[go_sem, *]) ?_;intro hk;simp only[List.forall_mem_cons]at hk;obtain⟨kk0,kk1,kz⟩:=hk;clear kz
     repeat go_big_quiet_step ((go_at_fn fid;exact Calls.later (HCU.out _)))
     refine wpQuiet_nil ?_;rintro w2 ⟨u1,rfl⟩;have hw3:=HW.out.bel u1.h;clear kk0 kk1 ca cb hk0 zc;generalize u1.w=wu at *;clear zd;have HW3:=Zq1 hw3;clear hw3;go_wp2_with fail;go_roundw;exact⟨k+1,r,HSY2.out,by go_num,rfl,HW3.out⟩;simp[intOf];omega
   ·have i1:¬(st:Int)<(r:Int):=(by omega);obtain rfl:st=r:=(by omega)
    obtain⟨hst0,hst1,hst2,hem,he1,he2,hxl,hxr⟩:=sym_split hc' HS1.out HS2.out ham hmb HMID.out HNN.out HLO.out HHI.out hsy
    obtain⟨e,hee⟩:∃e:Nat,e=N-st:=⟨_,rfl⟩
    rw[← hee]at hem he1 he2 hxl;have hxr2:∀x y,m≤x→x<e→st≤y→y<m→c (f x) (f y)<0:=(by rw[hee];exact hxr)
    obtain⟨t1,t2,t3,t4,t5⟩:=rot_rows hc' HS1.out HS2.out HNN.out hee hst0 hst1 hst2 hem he1 he2 hxl hxr2
    have hrk:RotOk c f (rotF st m e f) a b mid st e:=⟨rot_perm2 f hst0 hst1 hem he1,t1,t2,t3,t4,t5⟩;have ze:IntKind.i64.wrap ((N:Int)-(st:Int))=(e:Int):=(by rw[IntWalk.i64_in _ (by omega)];omega);have zf:(N:Int)-(st:Int)=(e:Int):=(by omega);clear hxr hxr2 hxl t1 t2 t3 t4 t5 hee
    by_cases hM:st<m∧m<e
    ·obtain⟨hM1,hM2⟩:=hM
     have m1:(st:Int)<(m:Int):=(by omega);have m2:(m:Int)<(e:Int):=(by omega);have ccm:=rotate_any (.func (.func fid) #[] cap) w0 g n q hn wr f st m e hw hM1 hM2 (by omega);generalize rotF st m e f=fr at *
     obtain⟨HW,HSY,HRK,CCM⟩:=Zq4 hw hsy hrk ccm;clear hw hsy hrk ccm
     go_wp2_with fail;go_fit CCM.out;rintro _ w3 ⟨rfl,hwr⟩;have HWR:=Zq1 hwr;clear hwr
     by_cases hL:a<st∧st<mid
     ·obtain⟨hL1,hL2⟩:=hL
      have u1:(a:Int)<(st:Int):=(by omega);have u2:(st:Int)<(mid:Int):=(by omega);have ccl:=IH.out _ fr a st mid (by have:=HD.out;omega) HWR.out hL1 hL2 (by omega) HRK.out.s1 HRK.out.s2;have CCL:=Zq1 ccl;clear ccl;go_wp2_with fail
      all_goals
       go_fit CCL.out;rintro _ w4 ⟨rfl,f1,hw1,hp1,hso1⟩
       obtain⟨HW1,HP1,HSO1⟩:=Zq3 hw1 hp1 hso1;clear hw1 hp1 hso1
       by_cases hR:mid<e∧e<b
       ·obtain⟨hR1,hR2⟩:=hR
        have v1:(mid:Int)<(e:Int):=(by omega);have v2:(e:Int)<(b:Int):=(by omega);have ccr:=IH.out _ f1 mid e b (by have:=HD.out;omega) HW1.out hR1 hR2 hbn (SortedIn.congr HRK.out.s3 (fun x hx _=>HP1.out.out x (by omega))) (SortedIn.congr HRK.out.s4 (fun x hx _=>HP1.out.out x (by omega)));have CCR:=Zq1 ccr;clear ccr;go_wp2_with fail
        all_goals
         go_fit CCR.out;rintro _ w5 ⟨rfl,f2,hw2,hp2,hso2⟩;have hfin:=HRK.out.fin HP1.out hp2 HSO1.out hso2 (by omega) (by omega)
         obtain⟨HW2,HP2,HSO2,HFIN⟩:=Zq4 hw2 hp2 hso2 hfin;clear hw2 hp2 hso2 hfin
         go_wp2_with fail;go_end0
         exact⟨rfl,_,HW2.out,HFIN.out.1,HFIN.out.2⟩
       ·have hso2:=HRK.out.right HP1.out (by omega) he2 he1;have hfin:=HRK.out.fin HP1.out (PermIn.refl _ _ _) HSO1.out hso2 (by omega) (by omega)
        obtain⟨HSO2,HFIN⟩:=Zq2 hso2 hfin;clear hso2 hfin
        by_cases v1:mid<e
        ·have v2:¬(e:Int)<(b:Int):=(by omega);have v3:(mid:Int)<(e:Int):=(by omega);clear hR;go_wp2_with fail
         all_goals
          go_end0
          exact⟨rfl,_,HW1.out,HFIN.out.1,HFIN.out.2⟩
        ·have v3:¬(mid:Int)<(e:Int):=(by omega);clear hR;go_wp2_with fail
         all_goals
          go_end0
          exact⟨rfl,_,HW1.out,HFIN.out.1,HFIN.out.2⟩
     ·have hso1:=HRK.out.left (by omega) hst0 hst2
      obtain⟨f1,hf1⟩:∃f1,f1=fr:=⟨_,rfl⟩
      have hw1:=HWR.out;have hp1:=PermIn.refl a mid fr;rw[← hf1]at hw1 hso1;have hp1:PermIn a mid fr f1:=(by rw[hf1];exact hp1);clear hf1
      obtain⟨HW1,HP1,HSO1⟩:=Zq3 hw1 hp1 hso1;clear hw1 hp1 hso1
      by_cases u1:a<st
      ·have u2:¬(st:Int)<(mid:Int):=(by omega);have u3:(a:Int)<(st:Int):=(by omega);clear hL
       by_cases hR:mid<e∧e<b
       ·obtain⟨hR1,hR2⟩:=hR
        have v1:(mid:Int)<(e:Int):=(by omega);have v2:(e:Int)<(b:Int):=(by omega);have ccr:=IH.out _ f1 mid e b (by have:=HD.out;omega) HW1.out hR1 hR2 hbn (SortedIn.congr HRK.out.s3 (fun x hx _=>HP1.out.out x (by omega))) (SortedIn.congr HRK.out.s4 (fun x hx _=>HP1.out.out x (by omega)));have CCR:=Zq1 ccr;clear ccr;go_wp2_with fail
        all_goals
         go_fit CCR.out;rintro _ w5 ⟨rfl,f2,hw2,hp2,hso2⟩;have hfin:=HRK.out.fin HP1.out hp2 HSO1.out hso2 (by omega) (by omega)
         obtain⟨HW2,HP2,HSO2,HFIN⟩:=Zq4 hw2 hp2 hso2 hfin;clear hw2 hp2 hso2 hfin
         go_wp2_with fail;go_end0
         exact⟨rfl,_,HW2.out,HFIN.out.1,HFIN.out.2⟩
       ·have hso2:=HRK.out.right HP1.out (by omega) he2 he1;have hfin:=HRK.out.fin HP1.out (PermIn.refl _ _ _) HSO1.out hso2 (by omega) (by omega)
        obtain⟨HSO2,HFIN⟩:=Zq2 hso2 hfin;clear hso2 hfin
        by_cases v1:mid<e
        ·have v2:¬(e:Int)<(b:Int):=(by omega);have v3:(mid:Int)<(e:Int):=(by omega);clear hR;go_wp2_with fail
         all_goals
          go_end0
          exact⟨rfl,_,HW1.out,HFIN.out.1,HFIN.out.2⟩
        ·have v3:¬(mid:Int)<(e:Int):=(by omega);clear hR;go_wp2_with fail
         all_goals
          go_end0
          exact⟨rfl,_,HW1.out,HFIN.out.1,HFIN.out.2⟩
      ·have u3:¬(a:Int)<(st:Int):=(by omega);clear hL
       by_cases hR:mid<e∧e<b
       ·obtain⟨hR1,hR2⟩:=hR
        have v1:(mid:Int)<(e:Int):=(by omega);have v2:(e:Int)<(b:Int):=(by omega);have ccr:=IH.out _ f1 mid e b (by have:=HD.out;omega) HW1.out hR1 hR2 hbn (SortedIn.congr HRK.out.s3 (fun x hx _=>HP1.out.out x (by omega))) (SortedIn.congr HRK.out.s4 (fun x hx _=>HP1.out.out x (by omega)));have CCR:=Zq1 ccr;clear ccr;go_wp2_with fail
        all_goals
         go_fit CCR.out;rintro _ w5 ⟨rfl,f2,hw2,hp2,hso2⟩;have hfin:=HRK.out.fin HP1.out hp2 HSO1.out hso2 (by omega) (by omega)
         obtain⟨HW2,HP2,HSO2,HFIN⟩:=Zq4 hw2 hp2 hso2 hfin;clear hw2 hp2 hso2 hfin
         go_wp2_with fail;go_end0
         exact⟨rfl,_,HW2.out,HFIN.out.1,HFIN.out.2⟩
       ·have hso2:=HRK.out.right HP1.out (by omega) he2 he1;have hfin:=HRK.out.fin HP1.out (PermIn.refl _ _ _) HSO1.out hso2 (by omega) (by omega)
        obtain⟨HSO2,HFIN⟩:=Zq2 hso2 hfin;clear hso2 hfin
        by_cases v1:mid<e
        ·have v2:¬(e:Int)<(b:Int):=(by omega);have v3:(mid:Int)<(e:Int):=(by omega);clear hR;go_wp2_with fail
         all_goals
          go_end0
          exact⟨rfl,_,HW1.out,HFIN.out.1,HFIN.out.2⟩
        ·have v3:¬(mid:Int)<(e:Int):=(by omega);clear hR;go_wp2_with fail
         all_goals
          go_end0
          exact⟨rfl,_,HW1.out,HFIN.out.1,HFIN.out.2⟩
    ·have hid:rotF st m e f=f:=by
      by_cases hsm:st=m
      ·rw[hsm,rotF_left]
      ·rw[show e=m by omega,rotF_right]
     rw[hid]at hrk
     obtain⟨fr,hfr⟩:∃fr,fr=f:=⟨_,rfl⟩
     have hwr:=hw;rw[← hfr]at hwr;have hrk:RotOk c f fr a b mid st e:=(by rw[hfr];exact hrk);clear hid hfr
     obtain⟨HW,HSY,HRK,HWR⟩:=Zq4 hw hsy hrk hwr;clear hw hsy hrk hwr
     by_cases m1:st<m
     ·have m2:¬(m:Int)<(e:Int):=(by omega);have m3:(st:Int)<(m:Int):=(by omega);clear hM
      by_cases hL:a<st∧st<mid
      ·obtain⟨hL1,hL2⟩:=hL
       have u1:(a:Int)<(st:Int):=(by omega);have u2:(st:Int)<(mid:Int):=(by omega);have ccl:=IH.out _ fr a st mid (by have:=HD.out;omega) HWR.out hL1 hL2 (by omega) HRK.out.s1 HRK.out.s2;have CCL:=Zq1 ccl;clear ccl;go_wp2_with fail
       all_goals
        go_fit CCL.out;rintro _ w4 ⟨rfl,f1,hw1,hp1,hso1⟩
        obtain⟨HW1,HP1,HSO1⟩:=Zq3 hw1 hp1 hso1;clear hw1 hp1 hso1
        by_cases hR:mid<e∧e<b
        ·obtain⟨hR1,hR2⟩:=hR
         have v1:(mid:Int)<(e:Int):=(by omega);have v2:(e:Int)<(b:Int):=(by omega);have ccr:=IH.out _ f1 mid e b (by have:=HD.out;omega) HW1.out hR1 hR2 hbn (SortedIn.congr HRK.out.s3 (fun x hx _=>HP1.out.out x (by omega))) (SortedIn.congr HRK.out.s4 (fun x hx _=>HP1.out.out x (by omega)));have CCR:=Zq1 ccr;clear ccr;go_wp2_with fail
         all_goals
          go_fit CCR.out;rintro _ w5 ⟨rfl,f2,hw2,hp2,hso2⟩;have hfin:=HRK.out.fin HP1.out hp2 HSO1.out hso2 (by omega) (by omega)
          obtain⟨HW2,HP2,HSO2,HFIN⟩:=Zq4 hw2 hp2 hso2 hfin;clear hw2 hp2 hso2 hfin
          go_wp2_with fail;go_end0
          exact⟨rfl,_,HW2.out,HFIN.out.1,HFIN.out.2⟩
        ·have hso2:=HRK.out.right HP1.out (by omega) he2 he1;have hfin:=HRK.out.fin HP1.out (PermIn.refl _ _ _) HSO1.out hso2 (by omega) (by omega)
         obtain⟨HSO2,HFIN⟩:=Zq2 hso2 hfin;clear hso2 hfin
         by_cases v1:mid<e
         ·have v2:¬(e:Int)<(b:Int):=(by omega);have v3:(mid:Int)<(e:Int):=(by omega);clear hR;go_wp2_with fail
          all_goals
           go_end0
           exact⟨rfl,_,HW1.out,HFIN.out.1,HFIN.out.2⟩
         ·have v3:¬(mid:Int)<(e:Int):=(by omega);clear hR;go_wp2_with fail
          all_goals
           go_end0
           exact⟨rfl,_,HW1.out,HFIN.out.1,HFIN.out.2⟩
      ·have hso1:=HRK.out.left (by omega) hst0 hst2
       obtain⟨f1,hf1⟩:∃f1,f1=fr:=⟨_,rfl⟩
       have hw1:=HWR.out;have hp1:=PermIn.refl a mid fr;rw[← hf1]at hw1 hso1;have hp1:PermIn a mid fr f1:=(by rw[hf1];exact hp1);clear hf1
       obtain⟨HW1,HP1,HSO1⟩:=Zq3 hw1 hp1 hso1;clear hw1 hp1 hso1
       by_cases u1:a<st
       ·have u2:¬(st:Int)<(mid:Int):=(by omega);have u3:(a:Int)<(st:Int):=(by omega);clear hL
        by_cases hR:mid<e∧e<b
        ·obtain⟨hR1,hR2⟩:=hR
         have v1:(mid:Int)<(e:Int):=(by omega);have v2:(e:Int)<(b:Int):=(by omega);have ccr:=IH.out _ f1 mid e b (by have:=HD.out;omega) HW1.out hR1 hR2 hbn (SortedIn.congr HRK.out.s3 (fun x hx _=>HP1.out.out x (by omega))) (SortedIn.congr HRK.out.s4 (fun x hx _=>HP1.out.out x (by omega)));have CCR:=Zq1 ccr;clear ccr;go_wp2_with fail
         all_goals
          go_fit CCR.out;rintro _ w5 ⟨rfl,f2,hw2,hp2,hso2⟩;have hfin:=HRK.out.fin HP1.out hp2 HSO1.out hso2 (by omega) (by omega)
          obtain⟨HW2,HP2,HSO2,HFIN⟩:=Zq4 hw2 hp2 hso2 hfin;clear hw2 hp2 hso2 hfin
          go_wp2_with fail;go_end0
          exact⟨rfl,_,HW2.out,HFIN.out.1,HFIN.out.2⟩
        ·have hso2:=HRK.out.right HP1.out (by omega) he2 he1;have hfin:=HRK.out.fin HP1.out (PermIn.refl _ _ _) HSO1.out hso2 (by omega) (by omega)
         obtain⟨HSO2,HFIN⟩:=Zq2 hso2 hfin;clear hso2 hfin
         by_cases v1:mid<e
         ·have v2:¬(e:Int)<(b:Int):=(by omega);have v3:(mid:Int)<(e:Int):=(by omega);clear hR;go_wp2_with fail
          all_goals
           go_end0
           exact⟨rfl,_,HW1.out,HFIN.out.1,HFIN.out.2⟩
         ·have v3:¬(mid:Int)<(e:Int):=(by omega);clear hR;go_wp2_with fail
          all_goals
           go_end0
           exact⟨rfl,_,HW1.out,HFIN.out.1,HFIN.out.2⟩
       ·have u3:¬(a:Int)<(st:Int):=(by omega);clear hL
        by_cases hR:mid<e∧e<b
        ·obtain⟨hR1,hR2⟩:=hR
         have v1:(mid:Int)<(e:Int):=(by omega);have v2:(e:Int)<(b:Int):=(by omega);have ccr:=IH.out _ f1 mid e b (by have:=HD.out;omega) HW1.out hR1 hR2 hbn (SortedIn.congr HRK.out.s3 (fun x hx _=>HP1.out.out x (by omega))) (SortedIn.congr HRK.out.s4 (fun x hx _=>HP1.out.out x (by omega)));have CCR:=Zq1 ccr;clear ccr;go_wp2_with fail
         all_goals
          go_fit CCR.out;rintro _ w5 ⟨rfl,f2,hw2,hp2,hso2⟩;have hfin:=HRK.out.fin HP1.out hp2 HSO1.out hso2 (by omega) (by omega)
          obtain⟨HW2,HP2,HSO2,HFIN⟩:=Zq4 hw2 hp2 hso2 hfin;clear hw2 hp2 hso2 hfin
          go_wp2_with fail;go_end0
          exact⟨rfl,_,HW2.out,HFIN.out.1,HFIN.out.2⟩
        ·have hso2:=HRK.out.right HP1.out (by omega) he2 he1;have hfin:=HRK.out.fin HP1.out (PermIn.refl _ _ _) HSO1.out hso2 (by omega) (by omega)
         obtain⟨HSO2,HFIN⟩:=Zq2 hso2 hfin;clear hso2 hfin
         by_cases v1:mid<e
         ·have v2:¬(e:Int)<(b:Int):=(by omega);have v3:(mid:Int)<(e:Int):=(by omega);clear hR;go_wp2_with fail
          all_goals
           go_end0
           exact⟨rfl,_,HW1.out,HFIN.out.1,HFIN.out.2⟩
         ·have v3:¬(mid:Int)<(e:Int):=(by omega);clear hR;go_wp2_with fail
          all_goals
           go_end0
           exact⟨rfl,_,HW1.out,HFIN.out.1,HFIN.out.2⟩
     ·have m3:¬(st:Int)<(m:Int):=(by omega);clear hM
      by_cases hL:a<st∧st<mid
      ·obtain⟨hL1,hL2⟩:=hL
       have u1:(a:Int)<(st:Int):=(by omega);have u2:(st:Int)<(mid:Int):=(by omega);have ccl:=IH.out _ fr a st mid (by have:=HD.out;omega) HWR.out hL1 hL2 (by omega) HRK.out.s1 HRK.out.s2;have CCL:=Zq1 ccl;clear ccl;go_wp2_with fail
       all_goals
        go_fit CCL.out;rintro _ w4 ⟨rfl,f1,hw1,hp1,hso1⟩
        obtain⟨HW1,HP1,HSO1⟩:=Zq3 hw1 hp1 hso1;clear hw1 hp1 hso1
        by_cases hR:mid<e∧e<b
        ·obtain⟨hR1,hR2⟩:=hR
         have v1:(mid:Int)<(e:Int):=(by omega);have v2:(e:Int)<(b:Int):=(by omega);have ccr:=IH.out _ f1 mid e b (by have:=HD.out;omega) HW1.out hR1 hR2 hbn (SortedIn.congr HRK.out.s3 (fun x hx _=>HP1.out.out x (by omega))) (SortedIn.congr HRK.out.s4 (fun x hx _=>HP1.out.out x (by omega)));have CCR:=Zq1 ccr;clear ccr;go_wp2_with fail
         all_goals
          go_fit CCR.out;rintro _ w5 ⟨rfl,f2,hw2,hp2,hso2⟩;have hfin:=HRK.out.fin HP1.out hp2 HSO1.out hso2 (by omega) (by omega)
          obtain⟨HW2,HP2,HSO2,HFIN⟩:=Zq4 hw2 hp2 hso2 hfin;clear hw2 hp2 hso2 hfin
          go_wp2_with fail;go_end0
          exact⟨rfl,_,HW2.out,HFIN.out.1,HFIN.out.2⟩
        ·have hso2:=HRK.out.right HP1.out (by omega) he2 he1;have hfin:=HRK.out.fin HP1.out (PermIn.refl _ _ _) HSO1.out hso2 (by omega) (by omega)
         obtain⟨HSO2,HFIN⟩:=Zq2 hso2 hfin;clear hso2 hfin
         by_cases v1:mid<e
         ·have v2:¬(e:Int)<(b:Int):=(by omega);have v3:(mid:Int)<(e:Int):=(by omega);clear hR;go_wp2_with fail
          all_goals
           go_end0
           exact⟨rfl,_,HW1.out,HFIN.out.1,HFIN.out.2⟩
         ·have v3:¬(mid:Int)<(e:Int):=(by omega);clear hR;go_wp2_with fail
          all_goals
           go_end0
           exact⟨rfl,_,HW1.out,HFIN.out.1,HFIN.out.2⟩
      ·have hso1:=HRK.out.left (by omega) hst0 hst2
       obtain⟨f1,hf1⟩:∃f1,f1=fr:=⟨_,rfl⟩
       have hw1:=HWR.out;have hp1:=PermIn.refl a mid fr;rw[← hf1]at hw1 hso1;have hp1:PermIn a mid fr f1:=(by rw[hf1];exact hp1);clear hf1
       obtain⟨HW1,HP1,HSO1⟩:=Zq3 hw1 hp1 hso1;clear hw1 hp1 hso1
       by_cases u1:a<st
       ·have u2:¬(st:Int)<(mid:Int):=(by omega);have u3:(a:Int)<(st:Int):=(by omega);clear hL
        by_cases hR:mid<e∧e<b
        ·obtain⟨hR1,hR2⟩:=hR
         have v1:(mid:Int)<(e:Int):=(by omega);have v2:(e:Int)<(b:Int):=(by omega);have ccr:=IH.out _ f1 mid e b (by have:=HD.out;omega) HW1.out hR1 hR2 hbn (SortedIn.congr HRK.out.s3 (fun x hx _=>HP1.out.out x (by omega))) (SortedIn.congr HRK.out.s4 (fun x hx _=>HP1.out.out x (by omega)));have CCR:=Zq1 ccr;clear ccr;go_wp2_with fail
         all_goals
          go_fit CCR.out;rintro _ w5 ⟨rfl,f2,hw2,hp2,hso2⟩;have hfin:=HRK.out.fin HP1.out hp2 HSO1.out hso2 (by omega) (by omega)
          obtain⟨HW2,HP2,HSO2,HFIN⟩:=Zq4 hw2 hp2 hso2 hfin;clear hw2 hp2 hso2 hfin
          go_wp2_with fail;go_end0
          exact⟨rfl,_,HW2.out,HFIN.out.1,HFIN.out.2⟩
        ·have hso2:=HRK.out.right HP1.out (by omega) he2 he1;have hfin:=HRK.out.fin HP1.out (PermIn.refl _ _ _) HSO1.out hso2 (by omega) (by omega)
         obtain⟨HSO2,HFIN⟩:=Zq2 hso2 hfin;clear hso2 hfin
         by_cases v1:mid<e
         ·have v2:¬(e:Int)<(b:Int):=(by omega);have v3:(mid:Int)<(e:Int):=(by omega);clear hR;go_wp2_with fail
          all_goals
           go_end0
           exact⟨rfl,_,HW1.out,HFIN.out.1,HFIN.out.2⟩
         ·have v3:¬(mid:Int)<(e:Int):=(by omega);clear hR;go_wp2_with fail
          all_goals
           go_end0
           exact⟨rfl,_,HW1.out,HFIN.out.1,HFIN.out.2⟩
       ·have u3:¬(a:Int)<(st:Int):=(by omega);clear hL
        by_cases hR:mid<e∧e<b
        ·obtain⟨hR1,hR2⟩:=hR
         have v1:(mid:Int)<(e:Int):=(by omega);have v2:(e:Int)<(b:Int):=(by omega);have ccr:=IH.out _ f1 mid e b (by have:=HD.out;omega) HW1.out hR1 hR2 hbn (SortedIn.congr HRK.out.s3 (fun x hx _=>HP1.out.out x (by omega))) (SortedIn.congr HRK.out.s4 (fun x hx _=>HP1.out.out x (by omega)));have CCR:=Zq1 ccr;clear ccr;go_wp2_with fail
         all_goals
          go_fit CCR.out;rintro _ w5 ⟨rfl,f2,hw2,hp2,hso2⟩;have hfin:=HRK.out.fin HP1.out hp2 HSO1.out hso2 (by omega) (by omega)
          obtain⟨HW2,HP2,HSO2,HFIN⟩:=Zq4 hw2 hp2 hso2 hfin;clear hw2 hp2 hso2 hfin
          go_wp2_with fail;go_end0
          exact⟨rfl,_,HW2.out,HFIN.out.1,HFIN.out.2⟩
        ·have hso2:=HRK.out.right HP1.out (by omega) he2 he1;have hfin:=HRK.out.fin HP1.out (PermIn.refl _ _ _) HSO1.out hso2 (by omega) (by omega)
         obtain⟨HSO2,HFIN⟩:=Zq2 hso2 hfin;clear hso2 hfin
         by_cases v1:mid<e
         ·have v2:¬(e:Int)<(b:Int):=(by omega);have v3:(mid:Int)<(e:Int):=(by omega);clear hR;go_wp2_with fail
          all_goals
           go_end0
           exact⟨rfl,_,HW1.out,HFIN.out.1,HFIN.out.2⟩
         ·have v3:¬(mid:Int)<(e:Int):=(by omega);clear hR;go_wp2_with fail
          all_goals
           go_end0
           exact⟨rfl,_,HW1.out,HFIN.out.1,HFIN.out.2⟩
 ·have hlo:a=if mid<m then N-b else a:=by rw[if_neg hmm]
  have hhi:m=if mid<m then mid else m:=by rw[if_neg hmm]
  have hlh:a≤m∧a≤a∧m≤m∧m≤mid∧N≤a+b:=(by omega);have w1:¬(mid:Int)<(m:Int):=(by omega)
  obtain⟨H,HC,HS1,HS2,HMID,HNN,HLO,HHI,HLH,IH,HD⟩:=Zq11 h hc hs1 hs2 hmid hnn hlo hhi hlh ih hd;clear h hc hs1 hs2 hmid hnn hlo hhi hlh ih hd
  go_enter Tryz.func199,Tryz.ntmps199;go_wp2_with fail;clear q0 q1 q2;go_loopw [20,21] (fun t s wr=>∃(st r:Nat),SymAt c f a m N st r∧t=.int .i64 (st:Int)∧s=.int .i64 (r:Int)∧SrtW w0 g n q wr f) (fun t s _=>(intOf s).toNat-(intOf t).toNat)
  case atStart=>exact⟨a,m,⟨Nat.le_refl _,HLH.out.1,Nat.le_refl _,fun x h1 h2=>by omega,fun x h1 h2=>by omega⟩,rfl,rfl,H.out⟩
  case round=>
   obtain⟨st,r,hsy,rfl,rfl,hw⟩:=hrel
   have sy1:=hsy.b1;have sy2:=hsy.b2;have sy3:=hsy.b3
   obtain⟨lh1,lh2,lh3,lh4,lh5⟩:=HLH.out
   by_cases hlt:st<r
   ·have i1:(st:Int)<(r:Int):=(by omega)
    obtain⟨k,hk1,hk2⟩:∃k:Nat,2*k≤st+r∧st+r<2*k+2:=⟨(st+r) / 2,by omega,by omega⟩
    have hk0:((st:Int)+(r:Int)) / 2=(k:Int):=(by omega)
    obtain⟨pk,hpk1,hpk2⟩:∃pk:Nat,pk+k+1≤N∧N≤pk+k+1:=⟨N-1-k,by omega,by omega⟩
    have hpe:N-1-k=pk:=(by omega);have zc:IntKind.i64.wrap ((N:Int)-1-(k:Int))=(pk:Int):=(by rw[IntWalk.i64_in _ (by omega)];omega);have zd:(N:Int)-1-(k:Int)=(pk:Int):=(by omega);have ca:=hw.cell (i:=pk) (by omega);have cb:=hw.cell (i:=k) (by omega);have b1:=hw.lt pk (by omega);have b2:=hw.lt k (by omega);have hcu:=fun(u:Later wr)=>hcmp u.w _ _ (hw.bel u.h).kept b1.1 b1.2 b2.1 b2.2;have x0:(0:Int)≤(k:Int):=(by omega);have x1:(k:Int)<(n:Int):=(by omega);have x2:(0:Int)≤(pk:Int):=(by omega);have x3:(pk:Int)<(n:Int):=(by omega)
    by_cases hlv:c (f pk) (f k)<0
    ·have d2:decide (c (f pk) (f k)<0)=true:=decide_eq_true hlv;have hsy2:=hsy.less hc' HS1.out HS2.out ham hmb HMID.out HNN.out HLO.out HHI.out (h:=k) (by omega) (by omega) (by rw[hpe];exact hlv);clear hpe
     obtain⟨HW,HSY,HCU,HLV,HSY2⟩:=Zq5 hw hsy hcu hlv hsy2;clear hw hsy hcu hlv hsy2
     go_wp2_with fail;refine wp_region_later [(⟨g,pk,none⟩,.int .i64 (f pk)),(⟨g,k,none⟩,.int .i64 (f k))] (by kernel_rfl) (by kernel_rfl) (by simp[go_sem, *]) ?_;intro hk;simp only[List.forall_mem_cons]at hk;obtain⟨kk0,kk1,kz⟩:=hk;clear kz
     repeat go_big_quiet_step ((go_at_fn fid;exact Calls.later (HCU.out _)))
     refine wpQuiet_nil ?_;rintro w2 ⟨u1,rfl⟩;have hw3:=HW.out.bel u1.h;clear kk0 kk1 ca cb hk0 zc;generalize u1.w=wu at *;clear zd;have HW3:=Zq1 hw3;clear hw3;go_wp2_with fail;go_roundw;exact⟨st,k,HSY2.out,rfl,by go_num,HW3.out⟩;simp[intOf];omega
    ·have d2:decide (c (f pk) (f k)<0)=false:=decide_eq_false hlv;have hsy2:=hsy.more hc' HS1.out HS2.out ham hmb HMID.out HNN.out HLO.out HHI.out (h:=k) (by omega) (by omega) (by rw[hpe];exact hlv);clear hpe
     obtain⟨HW,HSY,HCU,HLV,HSY2⟩:=Zq5 hw hsy hcu hlv hsy2;clear hw hsy hcu hlv hsy2
     go_wp2_with fail;refine wp_region_later [(⟨g,pk,none⟩,.int .i64 (f pk)),(⟨g,k,none⟩,.int .i64 (f k))] (by kernel_rfl) (by kernel_rfl) (by simp[go_sem, *]) ?_;intro hk;simp only[List.forall_mem_cons]at hk;obtain⟨kk0,kk1,kz⟩:=hk;clear kz
     repeat go_big_quiet_step ((go_at_fn fid;exact Calls.later (HCU.out _)))
     refine wpQuiet_nil ?_;rintro w2 ⟨u1,rfl⟩;have hw3:=HW.out.bel u1.h;clear kk0 kk1 ca cb hk0 zc;generalize u1.w=wu at *;clear zd;have HW3:=Zq1 hw3;clear hw3;go_wp2_with fail;go_roundw;exact⟨k+1,r,HSY2.out,by go_num,rfl,HW3.out⟩;simp[intOf];omega
   ·have i1:¬(st:Int)<(r:Int):=(by omega);obtain rfl:st=r:=(by omega)
    obtain⟨hst0,hst1,hst2,hem,he1,he2,hxl,hxr⟩:=sym_split hc' HS1.out HS2.out ham hmb HMID.out HNN.out HLO.out HHI.out hsy
    obtain⟨e,hee⟩:∃e:Nat,e=N-st:=⟨_,rfl⟩
    rw[← hee]at hem he1 he2 hxl;have hxr2:∀x y,m≤x→x<e→st≤y→y<m→c (f x) (f y)<0:=(by rw[hee];exact hxr)
    obtain⟨t1,t2,t3,t4,t5⟩:=rot_rows hc' HS1.out HS2.out HNN.out hee hst0 hst1 hst2 hem he1 he2 hxl hxr2
    have hrk:RotOk c f (rotF st m e f) a b mid st e:=⟨rot_perm2 f hst0 hst1 hem he1,t1,t2,t3,t4,t5⟩;have ze:IntKind.i64.wrap ((N:Int)-(st:Int))=(e:Int):=(by rw[IntWalk.i64_in _ (by omega)];omega);have zf:(N:Int)-(st:Int)=(e:Int):=(by omega);clear hxr hxr2 hxl t1 t2 t3 t4 t5 hee
    by_cases hM:st<m∧m<e
    ·obtain⟨hM1,hM2⟩:=hM
     have m1:(st:Int)<(m:Int):=(by omega);have m2:(m:Int)<(e:Int):=(by omega);have ccm:=rotate_any (.func (.func fid) #[] cap) w0 g n q hn wr f st m e hw hM1 hM2 (by omega);generalize rotF st m e f=fr at *
     obtain⟨HW,HSY,HRK,CCM⟩:=Zq4 hw hsy hrk ccm;clear hw hsy hrk ccm
     go_wp2_with fail;go_fit CCM.out;rintro _ w3 ⟨rfl,hwr⟩;have HWR:=Zq1 hwr;clear hwr
     by_cases hL:a<st∧st<mid
     ·obtain⟨hL1,hL2⟩:=hL
      have u1:(a:Int)<(st:Int):=(by omega);have u2:(st:Int)<(mid:Int):=(by omega);have ccl:=IH.out _ fr a st mid (by have:=HD.out;omega) HWR.out hL1 hL2 (by omega) HRK.out.s1 HRK.out.s2;have CCL:=Zq1 ccl;clear ccl;go_wp2_with fail
      all_goals
       go_fit CCL.out;rintro _ w4 ⟨rfl,f1,hw1,hp1,hso1⟩
       obtain⟨HW1,HP1,HSO1⟩:=Zq3 hw1 hp1 hso1;clear hw1 hp1 hso1
       by_cases hR:mid<e∧e<b
       ·obtain⟨hR1,hR2⟩:=hR
        have v1:(mid:Int)<(e:Int):=(by omega);have v2:(e:Int)<(b:Int):=(by omega);have ccr:=IH.out _ f1 mid e b (by have:=HD.out;omega) HW1.out hR1 hR2 hbn (SortedIn.congr HRK.out.s3 (fun x hx _=>HP1.out.out x (by omega))) (SortedIn.congr HRK.out.s4 (fun x hx _=>HP1.out.out x (by omega)));have CCR:=Zq1 ccr;clear ccr;go_wp2_with fail
        all_goals
         go_fit CCR.out;rintro _ w5 ⟨rfl,f2,hw2,hp2,hso2⟩;have hfin:=HRK.out.fin HP1.out hp2 HSO1.out hso2 (by omega) (by omega)
         obtain⟨HW2,HP2,HSO2,HFIN⟩:=Zq4 hw2 hp2 hso2 hfin;clear hw2 hp2 hso2 hfin
         go_wp2_with fail;go_end0
         exact⟨rfl,_,HW2.out,HFIN.out.1,HFIN.out.2⟩
       ·have hso2:=HRK.out.right HP1.out (by omega) he2 he1;have hfin:=HRK.out.fin HP1.out (PermIn.refl _ _ _) HSO1.out hso2 (by omega) (by omega)
        obtain⟨HSO2,HFIN⟩:=Zq2 hso2 hfin;clear hso2 hfin
        by_cases v1:mid<e
        ·have v2:¬(e:Int)<(b:Int):=(by omega);have v3:(mid:Int)<(e:Int):=(by omega);clear hR;go_wp2_with fail
         all_goals
          go_end0
          exact⟨rfl,_,HW1.out,HFIN.out.1,HFIN.out.2⟩
        ·have v3:¬(mid:Int)<(e:Int):=(by omega);clear hR;go_wp2_with fail
         all_goals
          go_end0
          exact⟨rfl,_,HW1.out,HFIN.out.1,HFIN.out.2⟩
     ·have hso1:=HRK.out.left (by omega) hst0 hst2
      obtain⟨f1,hf1⟩:∃f1,f1=fr:=⟨_,rfl⟩
      have hw1:=HWR.out;have hp1:=PermIn.refl a mid fr;rw[← hf1]at hw1 hso1;have hp1:PermIn a mid fr f1:=(by rw[hf1];exact hp1);clear hf1
      obtain⟨HW1,HP1,HSO1⟩:=Zq3 hw1 hp1 hso1;clear hw1 hp1 hso1
      by_cases u1:a<st
      ·have u2:¬(st:Int)<(mid:Int):=(by omega);have u3:(a:Int)<(st:Int):=(by omega);clear hL
       by_cases hR:mid<e∧e<b
       ·obtain⟨hR1,hR2⟩:=hR
        have v1:(mid:Int)<(e:Int):=(by omega);have v2:(e:Int)<(b:Int):=(by omega);have ccr:=IH.out _ f1 mid e b (by have:=HD.out;omega) HW1.out hR1 hR2 hbn (SortedIn.congr HRK.out.s3 (fun x hx _=>HP1.out.out x (by omega))) (SortedIn.congr HRK.out.s4 (fun x hx _=>HP1.out.out x (by omega)));have CCR:=Zq1 ccr;clear ccr;go_wp2_with fail
        all_goals
         go_fit CCR.out;rintro _ w5 ⟨rfl,f2,hw2,hp2,hso2⟩;have hfin:=HRK.out.fin HP1.out hp2 HSO1.out hso2 (by omega) (by omega)
         obtain⟨HW2,HP2,HSO2,HFIN⟩:=Zq4 hw2 hp2 hso2 hfin;clear hw2 hp2 hso2 hfin
         go_wp2_with fail;go_end0
         exact⟨rfl,_,HW2.out,HFIN.out.1,HFIN.out.2⟩
       ·have hso2:=HRK.out.right HP1.out (by omega) he2 he1;have hfin:=HRK.out.fin HP1.out (PermIn.refl _ _ _) HSO1.out hso2 (by omega) (by omega)
        obtain⟨HSO2,HFIN⟩:=Zq2 hso2 hfin;clear hso2 hfin
        by_cases v1:mid<e
        ·have v2:¬(e:Int)<(b:Int):=(by omega);have v3:(mid:Int)<(e:Int):=(by omega);clear hR;go_wp2_with fail
         all_goals
          go_end0
          exact⟨rfl,_,HW1.out,HFIN.out.1,HFIN.out.2⟩
        ·have v3:¬(mid:Int)<(e:Int):=(by omega);clear hR;go_wp2_with fail
         all_goals
          go_end0
          exact⟨rfl,_,HW1.out,HFIN.out.1,HFIN.out.2⟩
      ·have u3:¬(a:Int)<(st:Int):=(by omega);clear hL
       by_cases hR:mid<e∧e<b
       ·obtain⟨hR1,hR2⟩:=hR
        have v1:(mid:Int)<(e:Int):=(by omega);have v2:(e:Int)<(b:Int):=(by omega);have ccr:=IH.out _ f1 mid e b (by have:=HD.out;omega) HW1.out hR1 hR2 hbn (SortedIn.congr HRK.out.s3 (fun x hx _=>HP1.out.out x (by omega))) (SortedIn.congr HRK.out.s4 (fun x hx _=>HP1.out.out x (by omega)));have CCR:=Zq1 ccr;clear ccr;go_wp2_with fail
        all_goals
         go_fit CCR.out;rintro _ w5 ⟨rfl,f2,hw2,hp2,hso2⟩;have hfin:=HRK.out.fin HP1.out hp2 HSO1.out hso2 (by omega) (by omega)
         obtain⟨HW2,HP2,HSO2,HFIN⟩:=Zq4 hw2 hp2 hso2 hfin;clear hw2 hp2 hso2 hfin
         go_wp2_with fail;go_end0
         exact⟨rfl,_,HW2.out,HFIN.out.1,HFIN.out.2⟩
       ·have hso2:=HRK.out.right HP1.out (by omega) he2 he1;have hfin:=HRK.out.fin HP1.out (PermIn.refl _ _ _) HSO1.out hso2 (by omega) (by omega)
        obtain⟨HSO2,HFIN⟩:=Zq2 hso2 hfin;clear hso2 hfin
        by_cases v1:mid<e
        ·have v2:¬(e:Int)<(b:Int):=(by omega);have v3:(mid:Int)<(e:Int):=(by omega);clear hR;go_wp2_with fail
         all_goals
          go_end0
          exact⟨rfl,_,HW1.out,HFIN.out.1,HFIN.out.2⟩
        ·have v3:¬(mid:Int)<(e:Int):=(by omega);clear hR;go_wp2_with fail
         all_goals
          go_end0
          exact⟨rfl,_,HW1.out,HFIN.out.1,HFIN.out.2⟩
    ·have hid:rotF st m e f=f:=by
      by_cases hsm:st=m
      ·rw[hsm,rotF_left]
      ·rw[show e=m by omega,rotF_right]
     rw[hid]at hrk
     obtain⟨fr,hfr⟩:∃fr,fr=f:=⟨_,rfl⟩
     have hwr:=hw;rw[← hfr]at hwr;have hrk:RotOk c f fr a b mid st e:=(by rw[hfr];exact hrk);clear hid hfr
     obtain⟨HW,HSY,HRK,HWR⟩:=Zq4 hw hsy hrk hwr;clear hw hsy hrk hwr
     by_cases m1:st<m
     ·have m2:¬(m:Int)<(e:Int):=(by omega);have m3:(st:Int)<(m:Int):=(by omega);clear hM
      by_cases hL:a<st∧st<mid
      ·obtain⟨hL1,hL2⟩:=hL
       have u1:(a:Int)<(st:Int):=(by omega);have u2:(st:Int)<(mid:Int):=(by omega);have ccl:=IH.out _ fr a st mid (by have:=HD.out;omega) HWR.out hL1 hL2 (by omega) HRK.out.s1 HRK.out.s2;have CCL:=Zq1 ccl;clear ccl;go_wp2_with fail
       all_goals
        go_fit CCL.out;rintro _ w4 ⟨rfl,f1,hw1,hp1,hso1⟩
        obtain⟨HW1,HP1,HSO1⟩:=Zq3 hw1 hp1 hso1;clear hw1 hp1 hso1
        by_cases hR:mid<e∧e<b
        ·obtain⟨hR1,hR2⟩:=hR
         have v1:(mid:Int)<(e:Int):=(by omega);have v2:(e:Int)<(b:Int):=(by omega);have ccr:=IH.out _ f1 mid e b (by have:=HD.out;omega) HW1.out hR1 hR2 hbn (SortedIn.congr HRK.out.s3 (fun x hx _=>HP1.out.out x (by omega))) (SortedIn.congr HRK.out.s4 (fun x hx _=>HP1.out.out x (by omega)));have CCR:=Zq1 ccr;clear ccr;go_wp2_with fail
         all_goals
          go_fit CCR.out;rintro _ w5 ⟨rfl,f2,hw2,hp2,hso2⟩;have hfin:=HRK.out.fin HP1.out hp2 HSO1.out hso2 (by omega) (by omega)
          obtain⟨HW2,HP2,HSO2,HFIN⟩:=Zq4 hw2 hp2 hso2 hfin;clear hw2 hp2 hso2 hfin
          go_wp2_with fail;go_end0
          exact⟨rfl,_,HW2.out,HFIN.out.1,HFIN.out.2⟩
        ·have hso2:=HRK.out.right HP1.out (by omega) he2 he1;have hfin:=HRK.out.fin HP1.out (PermIn.refl _ _ _) HSO1.out hso2 (by omega) (by omega)
         obtain⟨HSO2,HFIN⟩:=Zq2 hso2 hfin;clear hso2 hfin
         by_cases v1:mid<e
         ·have v2:¬(e:Int)<(b:Int):=(by omega);have v3:(mid:Int)<(e:Int):=(by omega);clear hR;go_wp2_with fail
          all_goals
           go_end0
           exact⟨rfl,_,HW1.out,HFIN.out.1,HFIN.out.2⟩
         ·have v3:¬(mid:Int)<(e:Int):=(by omega);clear hR;go_wp2_with fail
          all_goals
           go_end0
           exact⟨rfl,_,HW1.out,HFIN.out.1,HFIN.out.2⟩
      ·have hso1:=HRK.out.left (by omega) hst0 hst2
       obtain⟨f1,hf1⟩:∃f1,f1=fr:=⟨_,rfl⟩
       have hw1:=HWR.out;have hp1:=PermIn.refl a mid fr;rw[← hf1]at hw1 hso1;have hp1:PermIn a mid fr f1:=(by rw[hf1];exact hp1);clear hf1
       obtain⟨HW1,HP1,HSO1⟩:=Zq3 hw1 hp1 hso1;clear hw1 hp1 hso1
       by_cases u1:a<st
       ·have u2:¬(st:Int)<(mid:Int):=(by omega);have u3:(a:Int)<(st:Int):=(by omega);clear hL
        by_cases hR:mid<e∧e<b
        ·obtain⟨hR1,hR2⟩:=hR
         have v1:(mid:Int)<(e:Int):=(by omega);have v2:(e:Int)<(b:Int):=(by omega);have ccr:=IH.out _ f1 mid e b (by have:=HD.out;omega) HW1.out hR1 hR2 hbn (SortedIn.congr HRK.out.s3 (fun x hx _=>HP1.out.out x (by omega))) (SortedIn.congr HRK.out.s4 (fun x hx _=>HP1.out.out x (by omega)));have CCR:=Zq1 ccr;clear ccr;go_wp2_with fail
         all_goals
          go_fit CCR.out;rintro _ w5 ⟨rfl,f2,hw2,hp2,hso2⟩;have hfin:=HRK.out.fin HP1.out hp2 HSO1.out hso2 (by omega) (by omega)
          obtain⟨HW2,HP2,HSO2,HFIN⟩:=Zq4 hw2 hp2 hso2 hfin;clear hw2 hp2 hso2 hfin
          go_wp2_with fail;go_end0
          exact⟨rfl,_,HW2.out,HFIN.out.1,HFIN.out.2⟩
        ·have hso2:=HRK.out.right HP1.out (by omega) he2 he1;have hfin:=HRK.out.fin HP1.out (PermIn.refl _ _ _) HSO1.out hso2 (by omega) (by omega)
         obtain⟨HSO2,HFIN⟩:=Zq2 hso2 hfin;clear hso2 hfin
         by_cases v1:mid<e
         ·have v2:¬(e:Int)<(b:Int):=(by omega);have v3:(mid:Int)<(e:Int):=(by omega);clear hR;go_wp2_with fail
          all_goals
           go_end0
           exact⟨rfl,_,HW1.out,HFIN.out.1,HFIN.out.2⟩
         ·have v3:¬(mid:Int)<(e:Int):=(by omega);clear hR;go_wp2_with fail
          all_goals
           go_end0
           exact⟨rfl,_,HW1.out,HFIN.out.1,HFIN.out.2⟩
       ·have u3:¬(a:Int)<(st:Int):=(by omega);clear hL
        by_cases hR:mid<e∧e<b
        ·obtain⟨hR1,hR2⟩:=hR
         have v1:(mid:Int)<(e:Int):=(by omega);have v2:(e:Int)<(b:Int):=(by omega);have ccr:=IH.out _ f1 mid e b (by have:=HD.out;omega) HW1.out hR1 hR2 hbn (SortedIn.congr HRK.out.s3 (fun x hx _=>HP1.out.out x (by omega))) (SortedIn.congr HRK.out.s4 (fun x hx _=>HP1.out.out x (by omega)));have CCR:=Zq1 ccr;clear ccr;go_wp2_with fail
         all_goals
          go_fit CCR.out;rintro _ w5 ⟨rfl,f2,hw2,hp2,hso2⟩;have hfin:=HRK.out.fin HP1.out hp2 HSO1.out hso2 (by omega) (by omega)
          obtain⟨HW2,HP2,HSO2,HFIN⟩:=Zq4 hw2 hp2 hso2 hfin;clear hw2 hp2 hso2 hfin
          go_wp2_with fail;go_end0
          exact⟨rfl,_,HW2.out,HFIN.out.1,HFIN.out.2⟩
        ·have hso2:=HRK.out.right HP1.out (by omega) he2 he1;have hfin:=HRK.out.fin HP1.out (PermIn.refl _ _ _) HSO1.out hso2 (by omega) (by omega)
         obtain⟨HSO2,HFIN⟩:=Zq2 hso2 hfin;clear hso2 hfin
         by_cases v1:mid<e
         ·have v2:¬(e:Int)<(b:Int):=(by omega);have v3:(mid:Int)<(e:Int):=(by omega);clear hR;go_wp2_with fail
          all_goals
           go_end0
           exact⟨rfl,_,HW1.out,HFIN.out.1,HFIN.out.2⟩
         ·have v3:¬(mid:Int)<(e:Int):=(by omega);clear hR;go_wp2_with fail
          all_goals
           go_end0
           exact⟨rfl,_,HW1.out,HFIN.out.1,HFIN.out.2⟩
     ·have m3:¬(st:Int)<(m:Int):=(by omega);clear hM
      by_cases hL:a<st∧st<mid
      ·obtain⟨hL1,hL2⟩:=hL
       have u1:(a:Int)<(st:Int):=(by omega);have u2:(st:Int)<(mid:Int):=(by omega);have ccl:=IH.out _ fr a st mid (by have:=HD.out;omega) HWR.out hL1 hL2 (by omega) HRK.out.s1 HRK.out.s2;have CCL:=Zq1 ccl;clear ccl;go_wp2_with fail
       all_goals
        go_fit CCL.out;rintro _ w4 ⟨rfl,f1,hw1,hp1,hso1⟩
        obtain⟨HW1,HP1,HSO1⟩:=Zq3 hw1 hp1 hso1;clear hw1 hp1 hso1
        by_cases hR:mid<e∧e<b
        ·obtain⟨hR1,hR2⟩:=hR
         have v1:(mid:Int)<(e:Int):=(by omega);have v2:(e:Int)<(b:Int):=(by omega);have ccr:=IH.out _ f1 mid e b (by have:=HD.out;omega) HW1.out hR1 hR2 hbn (SortedIn.congr HRK.out.s3 (fun x hx _=>HP1.out.out x (by omega))) (SortedIn.congr HRK.out.s4 (fun x hx _=>HP1.out.out x (by omega)));have CCR:=Zq1 ccr;clear ccr;go_wp2_with fail
         all_goals
          go_fit CCR.out;rintro _ w5 ⟨rfl,f2,hw2,hp2,hso2⟩;have hfin:=HRK.out.fin HP1.out hp2 HSO1.out hso2 (by omega) (by omega)
          obtain⟨HW2,HP2,HSO2,HFIN⟩:=Zq4 hw2 hp2 hso2 hfin;clear hw2 hp2 hso2 hfin
          go_wp2_with fail;go_end0
          exact⟨rfl,_,HW2.out,HFIN.out.1,HFIN.out.2⟩
        ·have hso2:=HRK.out.right HP1.out (by omega) he2 he1;have hfin:=HRK.out.fin HP1.out (PermIn.refl _ _ _) HSO1.out hso2 (by omega) (by omega)
         obtain⟨HSO2,HFIN⟩:=Zq2 hso2 hfin;clear hso2 hfin
         by_cases v1:mid<e
         ·have v2:¬(e:Int)<(b:Int):=(by omega);have v3:(mid:Int)<(e:Int):=(by omega);clear hR;go_wp2_with fail
          all_goals
           go_end0
           exact⟨rfl,_,HW1.out,HFIN.out.1,HFIN.out.2⟩
         ·have v3:¬(mid:Int)<(e:Int):=(by omega);clear hR;go_wp2_with fail
          all_goals
           go_end0
           exact⟨rfl,_,HW1.out,HFIN.out.1,HFIN.out.2⟩
      ·have hso1:=HRK.out.left (by omega) hst0 hst2
       obtain⟨f1,hf1⟩:∃f1,f1=fr:=⟨_,rfl⟩
       have hw1:=HWR.out;have hp1:=PermIn.refl a mid fr;rw[← hf1]at hw1 hso1;have hp1:PermIn a mid fr f1:=(by rw[hf1];exact hp1);clear hf1
       obtain⟨HW1,HP1,HSO1⟩:=Zq3 hw1 hp1 hso1;clear hw1 hp1 hso1
       by_cases u1:a<st
       ·have u2:¬(st:Int)<(mid:Int):=(by omega);have u3:(a:Int)<(st:Int):=(by omega);clear hL
        by_cases hR:mid<e∧e<b
        ·obtain⟨hR1,hR2⟩:=hR
         have v1:(mid:Int)<(e:Int):=(by omega);have v2:(e:Int)<(b:Int):=(by omega);have ccr:=IH.out _ f1 mid e b (by have:=HD.out;omega) HW1.out hR1 hR2 hbn (SortedIn.congr HRK.out.s3 (fun x hx _=>HP1.out.out x (by omega))) (SortedIn.congr HRK.out.s4 (fun x hx _=>HP1.out.out x (by omega)));have CCR:=Zq1 ccr;clear ccr;go_wp2_with fail
         all_goals
          go_fit CCR.out;rintro _ w5 ⟨rfl,f2,hw2,hp2,hso2⟩;have hfin:=HRK.out.fin HP1.out hp2 HSO1.out hso2 (by omega) (by omega)
          obtain⟨HW2,HP2,HSO2,HFIN⟩:=Zq4 hw2 hp2 hso2 hfin;clear hw2 hp2 hso2 hfin
          go_wp2_with fail;go_end0
          exact⟨rfl,_,HW2.out,HFIN.out.1,HFIN.out.2⟩
        ·have hso2:=HRK.out.right HP1.out (by omega) he2 he1;have hfin:=HRK.out.fin HP1.out (PermIn.refl _ _ _) HSO1.out hso2 (by omega) (by omega)
         obtain⟨HSO2,HFIN⟩:=Zq2 hso2 hfin;clear hso2 hfin
         by_cases v1:mid<e
         ·have v2:¬(e:Int)<(b:Int):=(by omega);have v3:(mid:Int)<(e:Int):=(by omega);clear hR;go_wp2_with fail
          all_goals
           go_end0
           exact⟨rfl,_,HW1.out,HFIN.out.1,HFIN.out.2⟩
         ·have v3:¬(mid:Int)<(e:Int):=(by omega);clear hR;go_wp2_with fail
          all_goals
           go_end0
           exact⟨rfl,_,HW1.out,HFIN.out.1,HFIN.out.2⟩
       ·have u3:¬(a:Int)<(st:Int):=(by omega);clear hL
        by_cases hR:mid<e∧e<b
        ·obtain⟨hR1,hR2⟩:=hR
         have v1:(mid:Int)<(e:Int):=(by omega);have v2:(e:Int)<(b:Int):=(by omega);have ccr:=IH.out _ f1 mid e b (by have:=HD.out;omega) HW1.out hR1 hR2 hbn (SortedIn.congr HRK.out.s3 (fun x hx _=>HP1.out.out x (by omega))) (SortedIn.congr HRK.out.s4 (fun x hx _=>HP1.out.out x (by omega)));have CCR:=Zq1 ccr;clear ccr;go_wp2_with fail
         all_goals
          go_fit CCR.out;rintro _ w5 ⟨rfl,f2,hw2,hp2,hso2⟩;have hfin:=HRK.out.fin HP1.out hp2 HSO1.out hso2 (by omega) (by omega)
          obtain⟨HW2,HP2,HSO2,HFIN⟩:=Zq4 hw2 hp2 hso2 hfin;clear hw2 hp2 hso2 hfin
          go_wp2_with fail;go_end0
          exact⟨rfl,_,HW2.out,HFIN.out.1,HFIN.out.2⟩
        ·have hso2:=HRK.out.right HP1.out (by omega) he2 he1;have hfin:=HRK.out.fin HP1.out (PermIn.refl _ _ _) HSO1.out hso2 (by omega) (by omega)
         obtain⟨HSO2,HFIN⟩:=Zq2 hso2 hfin;clear hso2 hfin
         by_cases v1:mid<e
         ·have v2:¬(e:Int)<(b:Int):=(by omega);have v3:(mid:Int)<(e:Int):=(by omega);clear hR;go_wp2_with fail
          all_goals
           go_end0
           exact⟨rfl,_,HW1.out,HFIN.out.1,HFIN.out.2⟩
         ·have v3:¬(mid:Int)<(e:Int):=(by omega);clear hR;go_wp2_with fail
          all_goals
           go_end0
           exact⟨rfl,_,HW1.out,HFIN.out.1,HFIN.out.2⟩
open Go.RowKit Go.Shelf
section
variable (fid : FuncId) (cap : Array Value) (c : Int → Int → Int) (w0 : World) (g n q : Nat)
theorem symMerge_any (hn:n≤1000000)(hc:CmpOk c)
  (hg:∀args W,(callFunc fid args).run Tryz.prog W=.ok (.enter fid args) W)
  (hcmp:∀(W:World) (i k:Int),Kept [g] w0 W→0≤i→i<q→0≤k→k<q→Calls Tryz.prog fid (#[.int .i64 i,.int .i64 k]++cap) W fun e w'=>e=.returned (.int .i64 (c i k))∧Below W.heap.size W w'):
  ∀(d:Nat) (W:World) (f:Nat→Int) (a m b:Nat),b-a≤d→SrtW w0 g n q W f→a<m→m<b→b≤n→SortedIn c f a m→SortedIn c f m b→Calls Tryz.prog 199 #[.slice (some ⟨g,0,none⟩) n n,.int .i64 (a:Int),.int .i64 (m:Int),.int .i64 (b:Int),.func (.func fid) #[] cap] W (SymPost c w0 g n q a b f)
 |0,W,f,a,m,b,hd,h,h1,h2,_,_,_=>by omega
 |d+1,W,f,a,m,b,hd,h,h1,h2,h3,s1,s2=>by
  by_cases c1:m=a+1
  ·subst c1;exact sym1_any fid cap c w0 g n q hn hc hg hcmp W f a b h h2 h3 s2
  ·by_cases c2:b=m+1
   ·subst c2;exact sym2_any fid cap c w0 g n q hn hc hg hcmp W f a m h (by omega) h3 s1
   ·exact sym3_any fid cap c w0 g n q hn hc hg hcmp (d+1) (fun W f a m b h0 h h1 h2 h3 s1 s2=>symMerge_any hn hc hg hcmp d W f a m b (by omega) h h1 h2 h3 s1 s2) W f a m b hd h (by omega) (by omega) h3 s1 s2
end
def RunsIn (c:Int→Int→Int)(f:Nat→Int)(bs n:Nat):Prop:=∀i j,i<j→j<n→i / bs=j / bs→¬c (f j) (f i)<0
theorem RunsIn.all {c:Int→Int→Int}{f:Nat→Int}{bs n:Nat}(h:RunsIn c f bs n)(hb:n≤bs):SortedIn c f 0 n:=fun i j _ h2 h3=>h i j h2 h3 (by rw[Nat.div_eq_of_lt (by omega),Nat.div_eq_of_lt (by omega)])
theorem run_mul {bs i j u:Nat}(hb:0<bs)(h:i / bs=j / bs)(hi:i<u*bs):j<u*bs:=by
 have h1:=(Nat.div_lt_iff_lt_mul hb).2 hi;rw[h]at h1
 exact(Nat.div_lt_iff_lt_mul hb).1 h1
theorem RunsIn.add {c:Int→Int→Int}{f f':Nat→Int}{bs u b:Nat}(hb:0<bs)(h:RunsIn c f bs (u*bs))(hp:PermIn (u*bs) b f f')(hs:SortedIn c f' (u*bs) b)(_:u*bs≤b):RunsIn c f' bs b:=fun i j h1 h2 h3=>by
 by_cases hi:u*bs≤i
 ·exact hs i j hi h1 h2
 ·have hj:=run_mul (u:=u) hb h3 (by omega);rw[hp.out i (by omega),hp.out j (by omega)];exact h i j h1 hj h3
structure Runs2 (c:Int→Int→Int)(f:Nat→Int)(bs u n:Nat):Prop where
 lo:RunsIn c f (2*bs) (u*(2*bs))
 hi:∀i j,u*(2*bs)≤i→i<j→j<n→i / bs=j / bs→¬c (f j) (f i)<0
theorem Runs2.start {c:Int→Int→Int}{f:Nat→Int}{bs n:Nat}(h:RunsIn c f bs n):Runs2 c f bs 0 n:=⟨fun i j _ h2 _=>by omega,fun i j _ h2 h3 h4=>h i j h2 h3 h4⟩
theorem Runs2.left {c:Int→Int→Int}{f:Nat→Int}{bs u n b:Nat}(h:Runs2 c f bs u n)(h1:b≤n)(h2:b≤u*(2*bs)+bs):SortedIn c f (u*(2*bs)) b:=fun i j x y z=>by
 refine h.hi i j x y (by omega) ?_;have e:u*(2*bs)=(2*u)*bs:=by rw[← Nat.mul_assoc,Nat.mul_comm u 2]
 rw[e]at x h2
 have g:∀x,(2*u)*bs≤x→x<(2*u)*bs+bs→x / bs=2*u:=fun x y z=>by
  apply Nat.div_eq_of_lt_le
  ·exact y
  ·rw[Nat.add_mul,Nat.one_mul];exact z
 rw[g i (by omega) (by omega),g j (by omega) (by omega)]
theorem Runs2.right {c:Int→Int→Int}{f:Nat→Int}{bs u n b:Nat}(h:Runs2 c f bs u n)(h1:b≤n)(h2:b≤(u+1)*(2*bs)):SortedIn c f (u*(2*bs)+bs) b:=fun i j x y z=>by
 refine h.hi i j (by omega) y (by omega) ?_;have e:u*(2*bs)=(2*u)*bs:=by rw[← Nat.mul_assoc,Nat.mul_comm u 2]
 rw[Nat.add_mul,Nat.one_mul]at h2;rw[e]at x h2
 have g:∀x,(2*u)*bs+bs≤x→x<(2*u)*bs+2*bs→x / bs=2*u+1:=fun x y z=>by
  apply Nat.div_eq_of_lt_le
  ·rw[Nat.add_mul,Nat.one_mul];exact y
  ·rw[Nat.add_mul,Nat.add_mul,Nat.one_mul];omega
 rw[g i (by omega) (by omega),g j (by omega) (by omega)]
theorem Runs2.step {c:Int→Int→Int}{f f':Nat→Int}{bs u n:Nat}(h:Runs2 c f bs u n)(hb:0<bs)(hp:PermIn (u*(2*bs)) ((u+1)*(2*bs)) f f')(hs:SortedIn c f' (u*(2*bs)) ((u+1)*(2*bs))):Runs2 c f' bs (u+1) n:=by
 refine⟨RunsIn.add (by omega) h.lo hp hs (Nat.mul_le_mul_right _ (by omega)),fun i j h1 h2 h3 h4=>?_⟩
 have hle:u*(2*bs)≤(u+1)*(2*bs):=Nat.mul_le_mul_right _ (by omega);rw[hp.out i (by omega),hp.out j (by omega)];exact h.hi i j (by omega) h2 h3 h4
theorem Runs2.last {c:Int→Int→Int}{f f':Nat→Int}{bs u n:Nat}(h:Runs2 c f bs u n)(hb:0<bs)(hp:PermIn (u*(2*bs)) n f f')(hs:SortedIn c f' (u*(2*bs)) n)(hle:u*(2*bs)≤n):RunsIn c f' (2*bs) n:=RunsIn.add (by omega) h.lo hp hs hle
theorem stableSort_any (fid:FuncId)(cap:Array Value)(c:Int→Int→Int)(w0:World)(g n q:Nat)(hn:n≤1000000)(hc:CmpOk c)
  (hg:∀args W,(callFunc fid args).run Tryz.prog W=.ok (.enter fid args) W)
  (hcmp:∀(W:World) (i k:Int),Kept [g] w0 W→0≤i→i<q→0≤k→k<q→Calls Tryz.prog fid (#[.int .i64 i,.int .i64 k]++cap) W fun e w'=>e=.returned (.int .i64 (c i k))∧Below W.heap.size W w')
  (W:World) (f:Nat→Int) (h:SrtW w0 g n q W f):
  Calls Tryz.prog 176 #[.slice (some ⟨g,0,none⟩) n n,.int .i64 (n:Int),.func (.func fid) #[] cap] W (SymPost c w0 g n q 0 n f):=by
 have cI:=fun W f a b h1 h2 h3=>insSort_any fid cap c w0 g n q hn hc hg hcmp W f a b h1 h2 h3;have cS:=fun W f a m b h1 h2 h3 h4 h5 h6=>symMerge_any fid cap c w0 g n q hn hc hg hcmp (b-a) W f a m b (Nat.le_refl _) h1 h2 h3 h4 h5 h6;clear hcmp
 obtain⟨H,HC,CI,CS⟩:=Zq4 h hc cI cS;clear h hc cI cS
 go_enter Tryz.func176,Tryz.ntmps176;go_wp2_with fail;go_loopw [7,8] (fun t s wr=>∃(u a b:Nat) (f1:Nat→Int),a≤u*20∧u*20≤a∧b≤a+20∧a+20≤b∧a≤n∧t=.int .i64 (a:Int)∧s=.int .i64 (b:Int)∧SrtW w0 g n q wr f1∧PermIn 0 n f f1∧RunsIn c f1 20 a) (fun _ s _=>n+20-(intOf s).toNat)
 case atStart=>exact⟨0,0,20,f,by omega,by omega,by omega,by omega,by omega,rfl,rfl,H.out,PermIn.refl _ _ _,fun i j h1 h2=>by omega⟩
 case round=>
  obtain⟨u,a,b,f1,ha1,ha2,hb1,hb2,han,rfl,rfl,hw,hp,hr⟩:=hrel
  by_cases hlt:b≤n
  ·have i1:(b:Int)≤(n:Int):=(by omega);have cc:=CI.out wr f1 a b hw (by omega) hlt;have v1:IntKind.i64.wrap ((b:Int)+20)=(b:Int)+20:=IntWalk.i64_in _ (by omega)
   obtain⟨HW,HP,HR,CC⟩:=Zq4 hw hp hr cc;clear hw hp hr cc
   go_wp2_with fail;go_fit CC.out;rintro _ w2 ⟨rfl,f2,hw2,hp2,hs2⟩
   have hr2:RunsIn c f2 20 b:=by
    have h5:=HR.out;have ha3:a=u*20:=(by omega);rw[ha3]at h5 hp2 hs2;exact RunsIn.add (by omega) h5 hp2 hs2 (by omega)
   have hp3:=HP.out.trans (hp2.mono (Nat.zero_le _) hlt)
   obtain⟨HW2,HP2,HS2,HR2,HP3⟩:=Zq5 hw2 hp2 hs2 hr2 hp3;clear hw2 hp2 hs2 hr2 hp3
   go_wp2_with fail;go_roundw;exact⟨u+1,b,b+20,f2,by omega,by omega,by omega,by omega,by omega,by go_num,by go_num,HW2.out,HP3.out,HR2.out⟩;simp[intOf];omega
  ·have i1:¬(b:Int)≤(n:Int):=(by omega);have cc:=CI.out wr f1 a n hw han (Nat.le_refl _)
   obtain⟨HW,HP,HR,CC⟩:=Zq4 hw hp hr cc;clear hw hp hr cc
   go_wp2_with fail;go_fit CC.out;rintro _ w2 ⟨rfl,f2,hw2,hp2,hs2⟩
   have hr2:RunsIn c f2 20 n:=by
    have h5:=HR.out;have ha3:a=u*20:=(by omega);rw[ha3]at h5 hp2 hs2;exact RunsIn.add (by omega) h5 hp2 hs2 (by omega)
   have hp3:=HP.out.trans (hp2.mono (Nat.zero_le _) (Nat.le_refl _))
   obtain⟨HW2,HP2,HS2,HR2,HP3⟩:=Zq5 hw2 hp2 hs2 hr2 hp3;clear hw2 hp2 hs2 hr2 hp3
   clear HW HP HR CC;go_wp2_with fail;go_loopw [6] (fun t wr=>∃(bs:Nat) (f1:Nat→Int),0<bs∧bs≤20+2*n∧t=.int .i64 (bs:Int)∧SrtW w0 g n q wr f1∧PermIn 0 n f f1∧RunsIn c f1 bs n) (fun t _=>20+2*n-(intOf t).toNat)
   case atStart=>exact⟨20,f2,by omega,by omega,rfl,HW2.out,HP3.out,HR2.out⟩
   case round=>
    clear HW2 HP2 HS2 HR2 HP3
    obtain⟨bs,f1,hb0,hb1,rfl,hw,hp,hr⟩:=hrel
    by_cases hlt2:bs<n
    ·have j1:(bs:Int)<(n:Int):=(by omega);have v1:IntKind.i64.wrap (2*(bs:Int))=2*(bs:Int):=IntWalk.i64_in _ (by omega);have v2:IntKind.i64.wrap ((bs:Int)*2)=(bs:Int)*2:=IntWalk.i64_in _ (by omega);have hr0:=Runs2.start hr
     obtain⟨HW,HP,HR,HR0⟩:=Zq4 hw hp hr hr0;clear hw hp hr hr0
     go_wp2_with fail;go_loopw [7,8] (fun t s wr=>∃(u a b:Nat) (f1:Nat→Int),a≤u*(2*bs)∧u*(2*bs)≤a∧b≤a+2*bs∧a+2*bs≤b∧a≤n∧t=.int .i64 (a:Int)∧s=.int .i64 (b:Int)∧SrtW w0 g n q wr f1∧PermIn 0 n f f1∧Runs2 c f1 bs u n) (fun _ s _=>n+2*bs-(intOf s).toNat)
     case atStart=>exact⟨0,0,2*bs,f1,by omega,by omega,by omega,by omega,by omega,rfl,by go_num,HW.out,HP.out,HR0.out⟩
     case round=>
      clear HW HP HR HR0
      obtain⟨u,a,b,f2,ha1,ha2,hb1,hb2,han,rfl,rfl,hw,hp,hr⟩:=hrel
      have hu1:(u+1)*(2*bs)=u*(2*bs)+2*bs:=(by rw[Nat.add_mul,Nat.one_mul]);have ha3:u*(2*bs)=a:=(by omega)
      by_cases hlt3:b≤n
      ·have k1:(b:Int)≤(n:Int):=(by omega);have s1:=hr.left (b:=a+bs) (by omega) (by omega);have s2:=hr.right (b:=b) (by omega) (by omega);rw[ha3]at s1 s2;have cc:=CS.out wr f2 a (a+bs) b hw (by omega) (by omega) hlt3 s1 s2;have v3:IntKind.i64.wrap ((a:Int)+(bs:Int))=(a:Int)+(bs:Int):=IntWalk.i64_in _ (by omega);have v4:IntKind.i64.wrap ((b:Int)+2*(bs:Int))=(b:Int)+2*(bs:Int):=IntWalk.i64_in _ (by omega)
       obtain⟨HW,HP,HR,CC,HA3,HU1,S1,S2⟩:=Zq8 hw hp hr cc ha3 hu1 s1 s2;clear hw hp hr cc ha3 hu1 s1 s2
       go_wp2_with fail;go_fit CC.out;rintro _ w3 ⟨rfl,f3,hw3,hp3,hs3⟩;have hbb:b=(u+1)*(2*bs):=(by have:=HA3.out;have:=HU1.out;omega)
       have hr3:Runs2 c f3 bs (u+1) n:=by
        rw[← HA3.out]at hp3 hs3;rw[hbb]at hp3 hs3;exact HR.out.step hb0 hp3 hs3
       have hp4:=HP.out.trans (hp3.mono (Nat.zero_le _) hlt3)
       obtain⟨HW3,HP3,HS3,HR3,HP4,HBB⟩:=Zq6 hw3 hp3 hs3 hr3 hp4 hbb;clear hw3 hp3 hs3 hr3 hp4 hbb
       go_wp2_with fail;go_roundw;exact⟨u+1,b,b+2*bs,f3,by have:=HBB.out;omega,by have:=HBB.out;omega,by omega,by omega,by omega,by go_num,by go_num,HW3.out,HP4.out,HR3.out⟩;simp[intOf];omega
      ·have k1:¬(b:Int)≤(n:Int):=(by omega);have v3:IntKind.i64.wrap ((a:Int)+(bs:Int))=(a:Int)+(bs:Int):=IntWalk.i64_in _ (by omega);have s2:=hr.right (b:=n) (by omega) (by omega);rw[ha3]at s2
       by_cases hmn:a+bs<n
       ·have k2:(a:Int)+(bs:Int)<(n:Int):=(by omega);have s1:=hr.left (b:=a+bs) (by omega) (by omega);rw[ha3]at s1;have cc:=CS.out wr f2 a (a+bs) n hw (by omega) hmn (Nat.le_refl _) s1 s2
        obtain⟨HW,HP,HR,CC,HA3,HU1,S1,S2⟩:=Zq8 hw hp hr cc ha3 hu1 s1 s2;clear hw hp hr cc ha3 hu1 s1 s2
        go_wp2_with fail;go_fit CC.out;rintro _ w3 ⟨rfl,f3,hw3,hp3,hs3⟩
        have hr3:RunsIn c f3 (2*bs) n:=by
         rw[← HA3.out]at hp3 hs3;exact HR.out.last hb0 hp3 hs3 (by have:=HA3.out;omega)
        rw[Nat.mul_comm 2 bs]at hr3;have hp4:=HP.out.trans (hp3.mono (Nat.zero_le _) (Nat.le_refl _))
        obtain⟨HW3,HP3,HS3,HR3,HP4⟩:=Zq5 hw3 hp3 hs3 hr3 hp4;clear hw3 hp3 hs3 hr3 hp4
        go_wp2_with fail;go_roundw;exact⟨bs*2,f3,by omega,by omega,by go_num,HW3.out,HP4.out,HR3.out⟩;simp[intOf];omega
       ·have k2:¬(a:Int)+(bs:Int)<(n:Int):=(by omega);have s1:=hr.left (b:=n) (by omega) (by omega);have hr3:RunsIn c f2 (2*bs) n:=hr.last hb0 (PermIn.refl _ _ _) s1 (by omega);rw[Nat.mul_comm 2 bs]at hr3
        obtain⟨HW,HP,HR,HA3,HU1,S1,S2,HR3⟩:=Zq8 hw hp hr ha3 hu1 s1 s2 hr3;clear hw hp hr ha3 hu1 s1 s2 hr3
        go_wp2_with fail;go_roundw;exact⟨bs*2,f2,by omega,by omega,by go_num,HW.out,HP.out,HR3.out⟩;simp[intOf];omega
    ·have j1:¬(bs:Int)<(n:Int):=(by omega);have hso:=hr.all (by omega)
     obtain⟨HW,HP,HR,HSO⟩:=Zq4 hw hp hr hso;clear hw hp hr hso
     go_wp2_with fail;go_end0
     exact⟨rfl,_,HW.out,HP.out,HSO.out⟩
theorem sortStable_any (fid:FuncId)(cap:Array Value)(c:Int→Int→Int)(w0:World)(g n q:Nat)(hn:n≤1000000)(hc:CmpOk c)
  (hg:∀args W,(callFunc fid args).run Tryz.prog W=.ok (.enter fid args) W)
  (hcmp:∀(W:World) (i k:Int),Kept [g] w0 W→0≤i→i<q→0≤k→k<q→Calls Tryz.prog fid (#[.int .i64 i,.int .i64 k]++cap) W fun e w'=>e=.returned (.int .i64 (c i k))∧Below W.heap.size W w')
  (W:World) (f:Nat→Int) (h:SrtW w0 g n q W f):
  Calls Tryz.prog 137 #[.slice (some ⟨g,0,none⟩) n n,.func (.func fid) #[] cap] W (SymPost c w0 g n q 0 n f):=by
 have cS:=stableSort_any fid cap c w0 g n q hn hc hg hcmp W f h;clear hcmp
 obtain⟨H,HC,CS⟩:=Zq3 h hc cS;clear h hc cS
 go_enter Tryz.func137,Tryz.ntmps137;go_wp2_with fail;go_fit CS.out;rintro _ w2 ⟨rfl,f2,hw2,hp2,hs2⟩
 obtain⟨HW2,HP2,HS2⟩:=Zq3 hw2 hp2 hs2;clear hw2 hp2 hs2
 go_wp2_with fail;go_end0
 exact⟨rfl,_,HW2.out,HP2.out,HS2.out⟩

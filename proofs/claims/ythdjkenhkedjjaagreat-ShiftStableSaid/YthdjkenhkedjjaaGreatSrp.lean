/- Srp -/
import Derived.Test.YthdjkenhkedjjaaGreatBase
namespace Go.Proofs.YthdjkenhkedjjaaGreat
def swapF (f:Nat→Int)(i j:Nat):Nat→Int:=fun x=>if x=i then f j else if x=j then f i else f x
theorem swapF_two (f:Nat→Int){i j:Nat}(h:i≠j):(fun x=>if x=j then f i else if x=i then f j else f x)=swapF f i j:=by
 funext x;unfold swapF
 by_cases h1:x=i
 ·subst h1;rw[if_neg h,if_pos rfl,if_pos rfl]
 ·rw[if_neg h1,if_neg h1]
structure PermIn (a b:Nat)(f g:Nat→Int):Prop where
 out:∀x,x<a∨b≤x→g x=f x
 mem:∀x,a≤x→x<b→∃y,a≤y∧y<b∧g x=f y
 perm:∀n,b≤n→((List.range n).map g).Perm ((List.range n).map f)
theorem PermIn.refl (a b:Nat)(f:Nat→Int):PermIn a b f f:=⟨fun _ _=>rfl,fun x h1 h2=>⟨x,h1,h2,rfl⟩,fun _ _=>List.Perm.refl _⟩
theorem PermIn.trans {a b:Nat}{f g h:Nat→Int}(h1:PermIn a b f g)(h2:PermIn a b g h):PermIn a b f h:=by
 refine⟨fun x hx=>(h2.out x hx).trans (h1.out x hx),fun x hx hy=>?_,fun n hn=>(h2.perm n hn).trans (h1.perm n hn)⟩
 obtain⟨y,y1,y2,e⟩:=h2.mem x hx hy
 obtain⟨z,z1,z2,e2⟩:=h1.mem y y1 y2
 exact⟨z,z1,z2,e.trans e2⟩
theorem PermIn.mono {a b c d:Nat}{f g:Nat→Int}(h:PermIn a b f g)(h1:c≤a)(h2:b≤d):PermIn c d f g:=by
 refine⟨fun x hx=>h.out x (by omega),fun x hx hy=>?_,fun n hn=>h.perm n (by omega)⟩
 by_cases hin:a≤x∧x<b
 ·obtain⟨y,y1,y2,e⟩:=h.mem x hin.1 hin.2
  exact⟨y,by omega,by omega,e⟩
 ·exact⟨x,hx,hy,h.out x (by omega)⟩
theorem range_swap_perm (n i j:Nat)(hi:i<n)(hj:j<n):((List.range n).map (fun x=>if x=i then j else if x=j then i else x)).Perm (List.range n):=by
 have hinj:∀x y:Nat,(if x=i then j else if x=j then i else x)=(if y=i then j else if y=j then i else y)→x=y:=fun x y=>by
  split <;> split <;> (try split) <;> (try split) <;> omega
 refine(List.perm_ext_iff_of_nodup ?_ List.nodup_range).2 fun x=>?_
 ·rw[List.nodup_iff_pairwise_ne,List.pairwise_map]
  exact(List.nodup_iff_pairwise_ne.1 List.nodup_range).imp fun h e=>h (hinj _ _ e)
 ·simp only[List.mem_map,List.mem_range];constructor
  ·rintro⟨y,hy,rfl⟩
   split
   ·exact hj
   ·split
    ·exact hi
    ·exact hy
  ·intro hx
   refine⟨if x=i then j else if x=j then i else x,?_,?_⟩
   ·split
    ·exact hj
    ·split
     ·exact hi
     ·exact hx
   ·by_cases h1:x=i
    ·subst h1;rw[if_pos rfl]
     by_cases h2:j=x
     ·rw[if_pos h2];exact h2
     ·rw[if_neg h2,if_pos rfl]
    ·rw[if_neg h1]
     by_cases h2:x=j
     ·subst h2;rw[if_pos rfl,if_pos rfl]
     ·rw[if_neg h2,if_neg h1,if_neg h2]
theorem PermIn.swap {a b i j:Nat}(f:Nat→Int)(hi:a≤i∧i<b)(hj:a≤j∧j<b):PermIn a b f (swapF f i j):=by
 refine⟨fun x hx=>?_,fun x h1 h2=>?_,fun n hn=>?_⟩
 ·unfold swapF;rw[if_neg (by omega),if_neg (by omega)]
 ·unfold swapF
  by_cases e1:x=i
  ·rw[if_pos e1];exact⟨j,hj.1,hj.2,rfl⟩
  ·rw[if_neg e1]
   by_cases e2:x=j
   ·rw[if_pos e2];exact⟨i,hi.1,hi.2,rfl⟩
   ·rw[if_neg e2];exact⟨x,h1,h2,rfl⟩
 ·have h:=(range_swap_perm n i j (by omega) (by omega)).map f;rw[List.map_map]at h
  have e:(f ∘ fun x=>if x=i then j else if x=j then i else x)=swapF f i j:=by
   funext x
   show f (if x=i then j else if x=j then i else x)=swapF f i j x;unfold swapF
   by_cases e1:x=i
   ·rw[if_pos e1,if_pos e1]
   ·rw[if_neg e1,if_neg e1]
    by_cases e2:x=j
    ·rw[if_pos e2,if_pos e2]
    ·rw[if_neg e2,if_neg e2]
  rw[e]at h;exact h
structure CmpOk (c:Int→Int→Int):Prop where
 asym:∀x y,c x y<0→¬c y x<0
 ntrans:∀x y z,¬c y x<0→¬c z y<0→¬c z x<0
def SortedIn (c:Int→Int→Int)(f:Nat→Int)(a b:Nat):Prop:=∀i j,a≤i→i<j→j<b→¬c (f j) (f i)<0
theorem SortedIn.le {c:Int→Int→Int}{f:Nat→Int}{a b:Nat}(hc:CmpOk c)(h:SortedIn c f a b){i j:Nat}(h1:a≤i)(h2:i≤j)(h3:j<b):¬c (f j) (f i)<0:=by
 rcases Nat.lt_or_ge i j with hlt | hge
 ·exact h i j h1 hlt h3
 ·obtain rfl:i=j:=(by omega);exact fun h=>hc.asym _ _ h h
theorem CmpOk.lt_of {c:Int→Int→Int}(hc:CmpOk c){x y z:Int}(h1:¬c y x<0)(h2:c y z<0):c x z<0:=by
 by_cases h:c x z<0
 ·exact h
 ·exact absurd h2 (hc.ntrans _ _ _ h h1)
theorem CmpOk.lt_of2 {c:Int→Int→Int}(hc:CmpOk c){x y z:Int}(h1:c x y<0)(h2:¬c z y<0):c x z<0:=by
 by_cases h:c x z<0
 ·exact h
 ·exact absurd h1 (hc.ntrans y z x h2 h)
theorem SortedIn.sub {c:Int→Int→Int}{f:Nat→Int}{a b a' b':Nat}(h:SortedIn c f a b)(h1:a≤a')(h2:b'≤b):SortedIn c f a' b':=fun i j x y z=>h i j (by omega) y (by omega)
theorem SortedIn.congr {c:Int→Int→Int}{f g:Nat→Int}{a b:Nat}(h:SortedIn c f a b)(e:∀x,a≤x→x<b→g x=f x):SortedIn c g a b:=fun i j x y z=>by
 rw[e i (by omega) (by omega),e j (by omega) z];exact h i j x y z
def InsAt (c:Int→Int→Int)(f:Nat→Int)(a i j:Nat):Prop:=∀p q,a≤p→p<q→q≤i→q≠j→¬c (f q) (f p)<0
theorem InsAt.start {c:Int→Int→Int}{f:Nat→Int}{a i:Nat}(h:SortedIn c f a i):InsAt c f a i i:=fun p q h1 h2 h3 h4=>h p q h1 h2 (by omega)
theorem InsAt.step {c:Int→Int→Int}(hc:CmpOk c){f:Nat→Int}{a i j:Nat}(h:InsAt c f a i j)(h1:a<j)(h2:j≤i)(hl:c (f j) (f (j-1))<0):InsAt c (swapF f j (j-1)) a i (j-1):=by
 intro p q hp hpq hq hne;unfold swapF;rcases Nat.lt_or_ge q (j-1)with c1 | c1
 ·rw[if_neg (show q≠j by omega),if_neg (show q≠j-1 by omega),if_neg (show p≠j by omega),if_neg (show p≠j-1 by omega)];exact h p q hp hpq hq (by omega)
 ·rcases Nat.lt_or_ge j q with c2 | c2
  ·rw[if_neg (show q≠j by omega),if_neg (show q≠j-1 by omega)]
   by_cases e1:p=j
   ·rw[if_pos e1];exact h (j-1) q (by omega) (by omega) hq (by omega)
   ·rw[if_neg e1]
    by_cases e2:p=j-1
    ·rw[if_pos e2];exact h j q (by omega) c2 hq (by omega)
    ·rw[if_neg e2];exact h p q hp hpq hq (by omega)
  ·obtain rfl:q=j:=(by omega);rw[if_pos rfl,if_neg (show p≠q by omega)]
   by_cases e2:p=q-1
   ·rw[if_pos e2];exact hc.asym _ _ hl
   ·rw[if_neg e2];exact h p (q-1) hp (by omega) (by omega) (by omega)
theorem InsAt.stop {c:Int→Int→Int}(hc:CmpOk c){f:Nat→Int}{a i j:Nat}(h:InsAt c f a i j)(h1:j≤a∨¬c (f j) (f (j-1))<0):SortedIn c f a (i+1):=by
 intro p q hp hpq hq
 by_cases e:q=j
 ·subst e;rcases h1 with h1 | h1
  ·omega
  ·by_cases e2:p=q-1
   ·subst e2;exact h1
   ·exact hc.ntrans _ _ _ (h p (q-1) hp (by omega) (by omega) (by omega)) h1
 ·exact h p q hp hpq (by omega) e
def upF (f:Nat→Int)(a k:Nat):Nat→Int:=fun x=>if x<a then f x else if x<k then f (x+1)else if x=k then f a else f x
theorem upF_zero (f:Nat→Int)(a:Nat):upF f a a=f:=by
 funext x;unfold upF
 by_cases h1:x<a
 ·rw[if_pos h1]
 ·rw[if_neg h1,if_neg h1]
  by_cases h2:x=a
  ·rw[if_pos h2,h2]
  ·rw[if_neg h2]
theorem upF_step (f:Nat→Int){a k:Nat}(h:a≤k):swapF (upF f a k) k (k+1)=upF f a (k+1):=by
 funext x;unfold swapF upF
 by_cases e1:x=k
 ·subst e1;rw[if_pos rfl,if_neg (by omega),if_neg (by omega),if_neg (by omega),if_neg (by omega),if_pos (by omega)]
 ·rw[if_neg e1]
  by_cases e2:x=k+1
  ·subst e2;rw[if_pos rfl,if_neg (by omega),if_neg (by omega),if_pos rfl,if_neg (by omega),if_neg (by omega),if_pos rfl]
  ·rw[if_neg e2]
   by_cases e3:x<a
   ·rw[if_pos e3,if_pos e3]
   ·rw[if_neg e3,if_neg e3]
    by_cases e4:x<k
    ·rw[if_pos e4,if_pos (by omega)]
    ·rw[if_neg e4,if_neg e1,if_neg (by omega),if_neg e2]
def downF (f:Nat→Int)(m k:Nat):Nat→Int:=fun x=>if m<x then f x else if k<x then f (x-1)else if x=k then f m else f x
theorem downF_zero (f:Nat→Int)(m:Nat):downF f m m=f:=by
 funext x;unfold downF
 by_cases h1:m<x
 ·rw[if_pos h1]
 ·rw[if_neg h1,if_neg h1]
  by_cases h2:x=m
  ·rw[if_pos h2,h2]
  ·rw[if_neg h2]
theorem downF_step (f:Nat→Int){m k:Nat}(h:k≤m)(h0:0<k):swapF (downF f m k) k (k-1)=downF f m (k-1):=by
 funext x;unfold swapF downF
 by_cases e1:x=k
 ·subst e1;rw[if_pos rfl,if_neg (by omega),if_neg (by omega),if_neg (by omega),if_neg (by omega),if_pos (by omega)]
 ·rw[if_neg e1]
  by_cases e2:x=k-1
  ·subst e2;rw[if_pos rfl,if_neg (by omega),if_neg (by omega),if_pos rfl,if_neg (by omega),if_neg (by omega),if_pos rfl]
  ·rw[if_neg e2]
   by_cases e3:m<x
   ·rw[if_pos e3,if_pos e3]
   ·rw[if_neg e3,if_neg e3]
    by_cases e4:k<x
    ·rw[if_pos e4,if_pos (by omega)]
    ·rw[if_neg e4,if_neg e1,if_neg (by omega),if_neg e2]
theorem up_sorted {c:Int→Int→Int}(hc:CmpOk c){f:Nat→Int}{a i b:Nat}(h:SortedIn c f (a+1) b)(h1:a<i)(h2:i≤b)(hl:∀x,a<x→x<i→c (f x) (f a)<0)(hg:∀x,i≤x→x<b→¬c (f x) (f a)<0):SortedIn c (upF f a (i-1)) a b:=by
 have e1:∀x,a≤x→x<i-1→upF f a (i-1) x=f (x+1):=fun x h1 h2=>by unfold upF;rw[if_neg (by omega),if_pos h2]
 have e2:upF f a (i-1) (i-1)=f a:=by unfold upF;rw[if_neg (by omega),if_neg (by omega),if_pos rfl]
 have e3:∀x,i-1<x→upF f a (i-1) x=f x:=fun x h1=>by unfold upF;rw[if_neg (by omega),if_neg (by omega),if_neg (by omega)]
 intro p q hp hpq hq;rcases Nat.lt_trichotomy q (i-1)with c1 | c1 | c1
 ·rw[e1 q (by omega) c1,e1 p hp (by omega)];exact h (p+1) (q+1) (by omega) (by omega) (by omega)
 ·rw[c1,e2,e1 p hp (by omega)];exact hc.asym _ _ (hl (p+1) (by omega) (by omega))
 ·rw[e3 q c1];rcases Nat.lt_trichotomy p (i-1)with c2 | c2 | c2
  ·rw[e1 p hp c2];exact h.le hc (by omega) (by omega) hq
  ·rw[c2,e2];exact hg q (by omega) hq
  ·rw[e3 p c2];exact h p q (by omega) hpq hq
theorem down_sorted {c:Int→Int→Int}(hc:CmpOk c){f:Nat→Int}{a i m:Nat}(h:SortedIn c f a m)(h1:a≤i)(h2:i≤m)(hl:∀x,a≤x→x<i→¬c (f m) (f x)<0)(hg:∀x,i≤x→x<m→c (f m) (f x)<0):SortedIn c (downF f m i) a (m+1):=by
 have e1:∀x,x<i→downF f m i x=f x:=fun x h1=>by unfold downF;rw[if_neg (by omega),if_neg (by omega),if_neg (by omega)]
 have e2:downF f m i i=f m:=by unfold downF;rw[if_neg (by omega),if_neg (by omega),if_pos rfl]
 have e3:∀x,i<x→x≤m→downF f m i x=f (x-1):=fun x h1 h2=>by unfold downF;rw[if_neg (by omega),if_pos h1]
 intro p q hp hpq hq;rcases Nat.lt_trichotomy q i with c1 | c1 | c1
 ·rw[e1 q c1,e1 p (by omega)];exact h p q hp hpq (by omega)
 ·rw[c1,e2,e1 p (by omega)];exact hl p hp (by omega)
 ·rw[e3 q c1 (by omega)];rcases Nat.lt_trichotomy p i with c2 | c2 | c2
  ·rw[e1 p c2];exact h.le hc hp (by omega) (by omega)
  ·rw[c2,e2];exact hc.asym _ _ (hg (q-1) (by omega) (by omega))
  ·rw[e3 p c2 (by omega)];exact h (p-1) (q-1) (by omega) (by omega) (by omega)
theorem up_perm (f:Nat→Int){a b:Nat}:∀k,a≤k→k<b→PermIn a b f (upF f a k)
 |0,h,_=>by
  obtain rfl:a=0:=Nat.le_zero.1 h;rw[upF_zero];exact PermIn.refl _ _ _
 |k+1,h,hb=>by
  by_cases e:a=k+1
  ·rw[← e,upF_zero];exact PermIn.refl _ _ _
  ·rw[← upF_step f (show a≤k by omega)]
   exact(up_perm f k (by omega) (by omega)).trans (PermIn.swap _ ⟨by omega,by omega⟩ ⟨by omega,hb⟩)
theorem down_perm (f:Nat→Int){a m:Nat}:∀d,a+d≤m→PermIn a (m+1) f (downF f m (m-d))
 |0,_=>by rw[Nat.sub_zero,downF_zero];exact PermIn.refl _ _ _
 |d+1,h=>by
  have e:=downF_step f (m:=m) (k:=m-d) (by omega) (by omega);rw[show m-d-1=m-(d+1) by omega]at e;rw[← e]
  exact(down_perm f d (by omega)).trans (PermIn.swap _ ⟨by omega,by omega⟩ ⟨by omega,by omega⟩)
def rotF (a m b:Nat)(f:Nat→Int):Nat→Int:=fun x=>if x<a∨b≤x then f x else if x<a+(b-m)then f (x+(m-a))else f (x-(b-m))
def swapsF (f:Nat→Int)(a b k:Nat):Nat→Int:=fun x=>if a≤x∧x<a+k then f (x+(b-a))else if b≤x∧x<b+k then f (x-(b-a))else f x
theorem swapsF_zero (f:Nat→Int)(a b:Nat):swapsF f a b 0=f:=by
 funext x;unfold swapsF;rw[if_neg (by omega),if_neg (by omega)]
theorem swapsF_step (f:Nat→Int){a b k n:Nat}(h:a+n≤b)(hk:k<n):swapF (swapsF f a b k) (a+k) (b+k)=swapsF f a b (k+1):=by
 funext x;unfold swapF swapsF
 by_cases e1:x=a+k
 ·rw[if_pos e1,if_neg (by omega),if_neg (by omega),if_pos (by omega)]
  congr 1;omega
 ·rw[if_neg e1]
  by_cases e2:x=b+k
  ·rw[if_pos e2,if_neg (by omega),if_neg (by omega),if_neg (by omega),if_pos (by omega)]
   congr 1;omega
  ·rw[if_neg e2]
   by_cases e3:a≤x∧x<a+k
   ·rw[if_pos e3,if_pos (by omega)]
   ·rw[if_neg e3,if_neg (show ¬(a≤x∧x<a+(k+1)) by omega)]
    by_cases e4:b≤x∧x<b+k
    ·rw[if_pos e4,if_pos (by omega)]
    ·rw[if_neg e4,if_neg (by omega)]
theorem swaps_perm (f:Nat→Int){a b n lo hi:Nat}(h:a+n≤b)(h1:lo≤a)(h2:b+n≤hi):∀k,k≤n→PermIn lo hi f (swapsF f a b k)
 |0,_=>by rw[swapsF_zero];exact PermIn.refl _ _ _
 |k+1,hk=>by
  rw[← swapsF_step f h (show k<n by omega)]
  exact(swaps_perm f h h1 h2 k (by omega)).trans (PermIn.swap _ ⟨by omega,by omega⟩ ⟨by omega,by omega⟩)
theorem rot_left (f:Nat→Int){i j m:Nat}(h:j<i)(hm:i≤m):rotF (m-(i-j)) m (m+j) (swapsF f (m-i) m j)=rotF (m-i) m (m+j) f:=by
 funext x
 have e0:m+j-m=j:=(by omega);have e1:m-(m-i)=i:=(by omega);have e2:m-(m-(i-j))=i-j:=(by omega);have e3:m-(i-j)=m-i+j:=(by omega);unfold rotF;rw[e0,e1,e2]
 by_cases c0:x<m-i∨m+j≤x
 ·rw[if_pos (show x<m-(i-j)∨m+j≤x by omega),if_pos c0];unfold swapsF;rw[if_neg (by omega),if_neg (by omega)]
 ·rw[if_neg c0]
  by_cases c1:x<m-i+j
  ·rw[if_pos (show x<m-(i-j)∨m+j≤x by omega),if_pos c1];unfold swapsF;rw[if_pos (by omega),e1]
  ·rw[if_neg (show ¬(x<m-(i-j)∨m+j≤x) by omega),if_neg c1]
   by_cases c2:x<m-(i-j)+j
   ·rw[if_pos c2];unfold swapsF;rw[if_neg (by omega),if_pos (by omega),e1];congr 1;omega
   ·rw[if_neg c2];unfold swapsF;rw[if_neg (by omega),if_neg (by omega)]
theorem rot_right (f:Nat→Int){i j m:Nat}(h:i<j)(hm:i≤m):rotF (m-i) m (m+(j-i)) (swapsF f (m-i) (m+j-i) i)=rotF (m-i) m (m+j) f:=by
 funext x
 have e0:m+j-m=j:=(by omega);have e1:m-(m-i)=i:=(by omega);have e2:m+(j-i)-m=j-i:=(by omega);have e4:m+j-i-(m-i)=j:=(by omega);unfold rotF;rw[e0,e1,e2]
 by_cases c0:x<m-i∨m+j≤x
 ·rw[if_pos (show x<m-i∨m+(j-i)≤x by omega),if_pos c0];unfold swapsF;rw[if_neg (by omega),if_neg (by omega)]
 ·rw[if_neg c0]
  by_cases c1:m+(j-i)≤x
  ·rw[if_pos (show x<m-i∨m+(j-i)≤x by omega),if_neg (show ¬x<m-i+j by omega)];unfold swapsF;rw[if_neg (by omega),if_pos (by omega),e4]
  ·rw[if_neg (show ¬(x<m-i∨m+(j-i)≤x) by omega)]
   by_cases c2:x<m-i+(j-i)
   ·rw[if_pos c2,if_pos (show x<m-i+j by omega)];unfold swapsF;rw[if_neg (by omega),if_neg (by omega)]
   ·rw[if_neg c2];unfold swapsF;rw[if_pos (by omega),e4,if_pos (by omega)];congr 1;omega
theorem rot_same (f:Nat→Int){i m:Nat}(hm:i≤m):swapsF f (m-i) m i=rotF (m-i) m (m+i) f:=by
 funext x
 have e0:m+i-m=i:=(by omega);have e1:m-(m-i)=i:=(by omega);unfold rotF swapsF;rw[e0,e1]
 by_cases c0:x<m-i∨m+i≤x
 ·rw[if_pos c0,if_neg (by omega),if_neg (by omega)]
 ·rw[if_neg c0]
  by_cases c1:x<m-i+i
  ·rw[if_pos c1,if_pos (by omega)]
  ·rw[if_neg c1,if_neg (by omega),if_pos (by omega)]
structure SymAt (c:Int→Int→Int)(f:Nat→Int)(lo hi n st r:Nat):Prop where
 b1:lo≤st
 b2:st≤r
 b3:r≤hi
 left:∀x,lo≤x→x<st→¬c (f (n-1-x)) (f x)<0
 right:∀x,r≤x→x<hi→c (f (n-1-x)) (f x)<0
theorem sym_split {c:Int→Int→Int}(hc:CmpOk c){f:Nat→Int}{a m b mid n lo hi st:Nat}(hs1:SortedIn c f a m)(hs2:SortedIn c f m b)(ham:a<m)(hmb:m<b)(hmid:mid=(a+b) / 2)(hn:n=mid+m)
  (hlo:lo=if mid<m then n-b else a) (hhi:hi=if mid<m then mid else m) (h:SymAt c f lo hi n st st):
  a≤st∧st≤m∧st≤mid∧m≤n-st∧n-st≤b∧mid≤n-st ∧
  (∀x y,a≤x→x<st→n-st≤y→y<b→¬c (f y) (f x)<0)∧(∀x y,m≤x→x<n-st→st≤y→y<m→c (f x) (f y)<0):=by
 obtain⟨b1,b2,b3,hl,hr⟩:=h
 have q1:a≤st∧st≤m∧st≤mid∧m≤n-st∧n-st≤b∧mid≤n-st:=by
  by_cases hmm:mid<m
  ·rw[if_pos hmm]at hlo hhi;omega
  ·rw[if_neg hmm]at hlo hhi;omega
 obtain⟨r1,r2,r3,r4,r5,r6⟩:=q1
 refine⟨r1,r2,r3,r4,r5,r6,fun x y hx1 hx2 hy1 hy2=>?_,fun x y hx1 hx2 hy1 hy2=>?_⟩
 ·-- st-1 is at lo or above,else the right is empty
  have hst:lo<st:=by
   by_cases hmm:mid<m
   ·rw[if_pos hmm]at hlo hhi;omega
   ·rw[if_neg hmm]at hlo hhi;omega
  have h1:=hl (st-1) (by omega) (by omega);rw[show n-1-(st-1)=n-st by omega]at h1;have h2:¬c (f (st-1)) (f x)<0:=hs1.le hc hx1 (by omega) (by omega);have h3:¬c (f y) (f (n-st))<0:=hs2.le hc r4 hy1 hy2;exact hc.ntrans _ _ _ h2 (hc.ntrans _ _ _ h1 h3)
 ·have hst:st<hi:=by
   by_cases hmm:mid<m
   ·rw[if_pos hmm]at hlo hhi;omega
   ·rw[if_neg hmm]at hlo hhi;omega
  have h1:=hr st (Nat.le_refl _) hst;rw[show n-1-st=n-st-1 by omega]at h1;have h2:¬c (f (n-st-1)) (f x)<0:=hs2.le hc hx1 (by omega) (by omega);have h3:¬c (f y) (f st)<0:=hs1.le hc r1 hy1 hy2;exact hc.lt_of h2 (hc.lt_of2 h1 h3)
theorem SymAt.more {c:Int→Int→Int}(hc:CmpOk c){f:Nat→Int}{a m b mid n lo hi st r h:Nat}(hs1:SortedIn c f a m)(hs2:SortedIn c f m b)(ham:a<m)(hmb:m<b)(hmid:mid=(a+b) / 2)(hn:n=mid+m)
  (hlo:lo=if mid<m then n-b else a) (hhi:hi=if mid<m then mid else m) (k:SymAt c f lo hi n st r) (h1:st≤h) (h2:h<r) (hc0:¬c (f (n-1-h)) (f h)<0):SymAt c f lo hi n (h+1) r:=by
 obtain⟨b1,b2,b3,hl,hr⟩:=k
 refine⟨by omega,by omega,b3,fun x hx hx2=>?_,hr⟩
 by_cases hmm:mid<m
 ·rw[if_pos hmm]at hlo hhi;exact hc.ntrans _ _ _ (hs1.le hc (show a≤x by omega) (show x≤h by omega) (by omega)) (hc.ntrans _ _ _ hc0 (hs2.le hc (show m≤n-1-h by omega) (show n-1-h≤n-1-x by omega) (by omega)))
 ·rw[if_neg hmm]at hlo hhi;exact hc.ntrans _ _ _ (hs1.le hc (show a≤x by omega) (show x≤h by omega) (by omega)) (hc.ntrans _ _ _ hc0 (hs2.le hc (show m≤n-1-h by omega) (show n-1-h≤n-1-x by omega) (by omega)))
theorem SymAt.less {c:Int→Int→Int}(hc:CmpOk c){f:Nat→Int}{a m b mid n lo hi st r h:Nat}(hs1:SortedIn c f a m)(hs2:SortedIn c f m b)(ham:a<m)(hmb:m<b)(hmid:mid=(a+b) / 2)(hn:n=mid+m)
  (hlo:lo=if mid<m then n-b else a) (hhi:hi=if mid<m then mid else m) (k:SymAt c f lo hi n st r) (h1:st≤h) (h2:h<r) (hc0:c (f (n-1-h)) (f h)<0):SymAt c f lo hi n st h:=by
 obtain⟨b1,b2,b3,hl,hr⟩:=k
 refine⟨b1,h1,by omega,hl,fun x hx hx2=>?_⟩
 by_cases hmm:mid<m
 ·rw[if_pos hmm]at hlo hhi;exact hc.lt_of (hs2.le hc (show m≤n-1-x by omega) (show n-1-x≤n-1-h by omega) (by omega)) (hc.lt_of2 hc0 (hs1.le hc (show a≤h by omega) hx (by omega)))
 ·rw[if_neg hmm]at hlo hhi;exact hc.lt_of (hs2.le hc (show m≤n-1-x by omega) (show n-1-x≤n-1-h by omega) (by omega)) (hc.lt_of2 hc0 (hs1.le hc (show a≤h by omega) hx (by omega)))
theorem rot_rows {c:Int→Int→Int}(hc:CmpOk c){f:Nat→Int}{a m b mid n st e:Nat}(hs1:SortedIn c f a m)(hs2:SortedIn c f m b)(hn:n=mid+m)(he:e=n-st)(r1:a≤st)(r2:st≤m)(r3:st≤mid)(r4:m≤e)(r5:e≤b)(r6:mid≤e)
  (hl:∀x y,a≤x→x<st→e≤y→y<b→¬c (f y) (f x)<0) (hr:∀x y,m≤x→x<e→st≤y→y<m→c (f x) (f y)<0):
  SortedIn c (rotF st m e f) a st∧SortedIn c (rotF st m e f) st mid∧SortedIn c (rotF st m e f) mid e∧SortedIn c (rotF st m e f) e b ∧
  (∀x y,a≤x→x<mid→mid≤y→y<b→¬c (rotF st m e f y) (rotF st m e f x)<0):=by
 have em:e-m=mid-st:=(by omega);have g1:∀x,x<st∨e≤x→rotF st m e f x=f x:=fun x hx=>by unfold rotF;rw[if_pos hx]
 have g2:∀x,st≤x→x<mid→rotF st m e f x=f (x+(m-st)):=fun x h1 h2=>by unfold rotF;rw[if_neg (by omega),if_pos (by omega)]
 have g3:∀x,mid≤x→x<e→rotF st m e f x=f (x-(e-m)):=fun x h1 h2=>by unfold rotF;rw[if_neg (by omega),if_neg (by omega)]
 refine⟨fun i j h1 h2 h3=>?_,fun i j h1 h2 h3=>?_,fun i j h1 h2 h3=>?_,fun i j h1 h2 h3=>?_,fun x y h1 h2 h3 h4=>?_⟩
 ·rw[g1 i (by omega),g1 j (by omega)];exact hs1 i j h1 h2 (by omega)
 ·rw[g2 i h1 (by omega),g2 j (by omega) h3];exact hs2 _ _ (by omega) (by omega) (by omega)
 ·rw[g3 i h1 (by omega),g3 j (by omega) h3];exact hs1 _ _ (by omega) (by omega) (by omega)
 ·rw[g1 i (by omega),g1 j (by omega)];exact hs2 i j (by omega) h2 h3
 ·rcases Nat.lt_or_ge x st with c1 | c1
  ·rw[g1 x (by omega)];rcases Nat.lt_or_ge y e with c2 | c2
   ·rw[g3 y h3 c2];exact hs1.le hc h1 (by omega) (by omega)
   ·rw[g1 y (by omega)];exact hl x y h1 c1 c2 h4
  ·rw[g2 x c1 h2];rcases Nat.lt_or_ge y e with c2 | c2
   ·rw[g3 y h3 c2];exact hc.asym _ _ (hr _ _ (by omega) (by omega) (by omega) (by omega))
   ·rw[g1 y (by omega)];exact hs2.le hc (by omega) (by omega) h4
theorem sym_join {c:Int→Int→Int}{f g h:Nat→Int}{a mid b:Nat}(h1:PermIn a mid f g)(h2:PermIn mid b g h)(s1:SortedIn c g a mid)(s2:SortedIn c h mid b)
  (hx:∀x y,a≤x→x<mid→mid≤y→y<b→¬c (f y) (f x)<0):SortedIn c h a b:=by
 intro i j hi hij hj;rcases Nat.lt_or_ge j mid with c1 | c1
 ·rw[h2.out i (by omega),h2.out j (by omega)];exact s1 i j hi hij c1
 ·rcases Nat.lt_or_ge i mid with c2 | c2
  ·obtain⟨y,y1,y2,e⟩:=h2.mem j c1 hj
   obtain⟨x,x1,x2,e2⟩:=h1.mem i hi c2
   rw[e,h2.out i (by omega),e2,h1.out y (by omega)];exact hx x y x1 x2 y1 y2
  ·exact s2 i j c2 hij hj

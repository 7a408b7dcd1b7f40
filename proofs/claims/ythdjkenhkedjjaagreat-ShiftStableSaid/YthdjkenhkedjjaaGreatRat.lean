/- Rat -/
import Derived.Test.YthdjkenhkedjjaaGreatG6
namespace Go.Proofs.YthdjkenhkedjjaaGreat
open Go.RowKit
def RulesAt (W:World):List Value→LG→Prop
 |c0::c1::c2::c3::c4::c5::r,x::xs=>c0=.bool x.choice∧Ints W c1 x.head∧c2=.bool x.sum∧c3=.int .i64 x.bound∧I64 x.bound∧Ints W c4 x.body∧Ints W c5 x.w∧RulesAt W r xs
 |[],[]=>True
 |_,_=>False
theorem rulesAt_get {W:World}:∀(xs:LG)(cs:List Value),RulesAt W cs xs→∀i x,xs[i]? = some x→∃c,ruleR.is W c x∧∀j u,c[j]? = some u→cs[i*6+j]? = some u
 |[],_,_,i,x,hx=>by simp at hx
 |y::ys,c0::c1::c2::c3::c4::c5::r,h,0,x,hx=>by
  simp at hx;subst hx
  obtain⟨rfl,h1,rfl,rfl,h2,h3,h4,_⟩:=h
  refine⟨_,⟨c1,c4,c5,rfl,h1,h2,h3,h4⟩,fun j u hu=>?_⟩
  match j,hu with
  |0,hu=>exact hu
  |1,hu=>exact hu
  |2,hu=>exact hu
  |3,hu=>exact hu
  |4,hu=>exact hu
  |5,hu=>exact hu
  |j+6,hu=>simp at hu
 |y::ys,c0::c1::c2::c3::c4::c5::r,h,i+1,x,hx=>by
  obtain⟨c,h1,h2⟩:=rulesAt_get ys r h.2.2.2.2.2.2.2 i x (by simpa using hx)
  refine⟨c,h1,fun j u hu=>?_⟩
  rw[show (i+1)*6+j=(i*6+j)+6 from by omega];exact h2 j u hu
theorem sl_rulesAt {W:World}{g l:Nat}{t:TypeId}{cs:List Value}{xs:LG}(h:Blk W g t cs.toArray)(hc:RulesAt W cs xs)(hl:l=xs.length)(hs:l≤17592186044416):SlIs ruleR W (some ⟨g,0,none⟩) l l xs:=
 sl_of_cells h hl hs (fun i x hx=>by
  obtain⟨c,h1,h2⟩:=rulesAt_get xs cs hc i x hx
  exact⟨c,h1,fun j u hu=>by simpa[ruleR]using h2 j u hu⟩)
theorem info_prog:(Tryz.prog.info? 27).map (·.size)=some 5:=by kernel_rfl
theorem ints_of {W:World}{A:OA}{l c:Nat}{xs:LI}(h:SlIs intR W A l c xs):Ints W (.slice A l c) xs:=⟨A,l,c,rfl,h⟩
theorem ints_nil (W:World):Ints W (.slice none 0 0) []:=⟨none,0,0,rfl,SlIs.nil _ _⟩
theorem i1 (W:World)(g:Nat)(x:Int)(h:Blk W g 3 #[.int .i64 x])(hx:I64 x):Ints W (.slice (some ⟨g,0,none⟩) 1 1) [x]:=
 ints_of (sl_ints [x] h rfl (by simp) (fun y hy=>by simp at hy;subst hy;exact hx))
theorem i2 (W:World)(g:Nat)(x y:Int)(h:Blk W g 3 #[.int .i64 x,.int .i64 y])(hx:I64 x)(hy:I64 y):Ints W (.slice (some ⟨g,0,none⟩) 2 2) [x,y]:=
 ints_of (sl_ints [x,y] h rfl (by simp) (fun z hz=>by simp at hz;rcases hz with rfl | rfl <;> assumption))

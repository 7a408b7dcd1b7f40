/- G1 -/
import Derived.Test.YthdjkenhkedjjaaGreatRows
import Derived.Test.YthdjkenhkedjjaaGreatBase
import Derived.Deep.QuietTactic
import Derived.BigQuiet
set_option maxRecDepth 100000
set_option maxHeartbeats 2000000
namespace Go.Proofs.YthdjkenhkedjjaaGreat
open Go.RowKit
def litB (x n:Int):Bool:=x != 0 && (decide (-n≤x) && decide (x≤n))
theorem literal_any (x n:Int)(w:World)(hn:0≤n)(hn2:n≤4000):
  Calls Tryz.prog 87 #[.int .i64 x,.int .i64 n] w fun e w'=>e=.returned (.bool (litB x n))∧w=w':=by
 go_enter Tryz.func87,Tryz.ntmps87;go_wp2
 all_goals go_ret
 all_goals exact⟨ret_bool (by simp[litB, *] <;> omega),rfl⟩
theorem isNaN_any (x:Int)(w:World):
  Calls Tryz.prog 152 #[.int .i64 x] w fun e w'=>e=.returned (.bool false)∧w=w':=by
 go_enter Tryz.func152,Tryz.ntmps152;go_wp2
 all_goals go_ret
 all_goals exact⟨ret_bool (by simp),rfl⟩
def cmpI (x y:Int):Int:=if x<y then -1 else if y<x then 1 else 0
theorem compare_any (x y:Int)(w:World):
  Calls Tryz.prog 128 #[.int .i64 x,.int .i64 y] w fun e w'=>e=.returned (.int .i64 (cmpI x y))∧w=w':=by
 go_enter Tryz.func128,Tryz.ntmps128;go_wp2_with (go_at_call 152;refine(isNaN_any _ _).mono ?_;rintro e w' ⟨rfl,rfl⟩)
 all_goals go_ret
 all_goals exact⟨ret_int (by simp[cmpI, *] <;> omega),rfl⟩
def absI (x:Int):Int:=if x<0 then -x else x
theorem atom_any (x:Int)(w:World)(h1 : -9223372036854775807≤x)(h2:x≤9223372036854775807):
  Calls Tryz.prog 132 #[.int .i64 x] w fun e w'=>e=.returned (.int .i64 (absI x))∧w=w':=by
 go_enter Tryz.func132,Tryz.ntmps132;go_wp2
 all_goals go_ret
 all_goals exact⟨ret_int (by unfold absI;split <;> omega),rfl⟩
def orI:LI→Int
 |[]=>0
 |x::r=>if x=0 then orI r else x
theorem or_any (A:OA)(l c:Nat)(xs:LI)(w:World)(h:SlIs intR w A l c xs):
  Calls Tryz.prog 131 #[.slice A l c] w fun e w'=>e=.returned (.int .i64 (orI xs))∧w=w':=by
 have hl:=h.cap;have hm:=h.max;have H:=Zq1 h;clear h;go_enter Tryz.func131,Tryz.ntmps131;go_wp2;go_loop [8] (fun i=>∃k:Nat,k≤l∧i=.int .i64 k∧orI xs=orI (xs.drop k)) (fun i=>l-(intOf i).toNat)
 case atStart=>exact⟨0,Nat.zero_le _,rfl,rfl⟩
 case round=>
  obtain⟨k,hk,rfl,hs⟩:=hrel
  have HS:=Zq1 hs;clear hs
  by_cases hlt:k<l
  ·obtain⟨x,hx,hd⟩:=H.out.drop hlt
   obtain⟨b,off,rfl,_,hcell,_⟩:=H.out.int hx
   obtain⟨HX,HD⟩:=Zq2 hx hd;clear hx hd
   by_cases hx0:(x != 0)=true
   ·go_wp2;go_ret
    exact⟨ret_int (by rw[HS.out,HD.out,orI,if_neg (by simpa using hx0)]),rfl⟩
   ·have hx1:(x != 0)=false:=(by simpa using hx0);clear hx0;go_wp2;go_round
    case rel=>exact⟨k+1,by omega,by go_num,by rw[HS.out,HD.out,orI,if_pos (by simpa using hx1)]⟩
    case measure=>simp[intOf];omega
  ·go_wp2;go_ret
   exact⟨ret_int (by rw[HS.out,H.out.stop (by omega)];rfl),rfl⟩
open Go.RowKit
theorem sl_new (w:World)(t:TypeId)(xs:LI)(l:Nat)(hc:l=xs.length)(h:∀x∈xs,I64 x)(hm:l≤17592186044416):
  SlIs intR (w.alloc (.cells ((xs.map (Value.int .i64)).toArray) t)) (some ⟨w.heap.size,0,none⟩) l l xs:=by
 refine⟨hc,Nat.le_refl _,⟨show l≤9223372036854775807 by omega,hm⟩,fun _=>⟨_,rfl,by simp,fun i x hx=>⟨[.int .i64 x],⟨rfl,h x (List.mem_of_getElem? hx)⟩,fun j u hu=>?_⟩⟩⟩
 match j,hu with
 |0,hu=>simp at hu;subst hu;rw[add_none];simp[intR,hx]
 |j+1,hu=>simp at hu
def litLt (a b:Int):Bool:=decide (absI a<absI b) || (decide (absI a=absI b) && decide (b<a))
def ordI (a b:Int):Int:=orI [cmpI (absI a) (absI b),cmpI b a]
theorem ordI_neg (a b:Int):decide (0≤ordI a b) = !litLt a b:=by
 unfold ordI orI orI orI litLt cmpI;rcases Int.lt_trichotomy (absI a) (absI b)with h | h | h
 ·simp[h]
 ·simp[h];rcases Int.lt_trichotomy b a with h2 | h2 | h2
  ·simp[h2]
  ·simp[h2]
  ·have:¬b<a:=(by omega)
   simp[h2,this]
 ·have h1:¬absI a<absI b:=(by omega);have h2:¬absI a=absI b:=(by omega);simp[h,h1,h2]
theorem cmpI_bd (a b:Int):I64 (cmpI a b):=by unfold cmpI I64;split <;> (try split) <;> omega
theorem order_any (a b:Int)(w:World)(h1 : -9223372036854775807≤a)(h2:a≤9223372036854775807)(h3 : -9223372036854775807≤b)(h4:b≤9223372036854775807):
  Calls Tryz.prog 88 #[.int .i64 a,.int .i64 b] w fun e w'=>e=.returned (.int .i64 (ordI a b))∧Below w.heap.size w w':=by
 have hs:=sl_new w 3 [cmpI (absI a) (absI b),cmpI b a] 2 rfl (by intro x hx;simp at hx;rcases hx with rfl | rfl <;> exact cmpI_bd _ _) (by omega);have HS:=Zq1 hs;clear hs;go_enter Tryz.func88,Tryz.ntmps88;go_wp2_with fail
 refine(atom_any a w h1 h2).mono ?_;rintro e w' ⟨rfl,rfl⟩
 go_wp2_with fail
 refine(atom_any b w h3 h4).mono ?_;rintro e w' ⟨rfl,rfl⟩
 go_wp2_with fail
 refine(compare_any _ _ w).mono ?_;rintro e w' ⟨rfl,rfl⟩
 go_wp2_with fail
 refine(compare_any _ _ w).mono ?_;rintro e w' ⟨rfl,rfl⟩
 go_wp2_with fail
 refine(or_any _ 2 2 [cmpI (absI a) (absI b),cmpI b a] _ HS.out).mono ?_;rintro e w' ⟨rfl,rfl⟩
 go_wp2_with fail;go_ret
 exact⟨rfl,(Below.refl _ _).alloc (Nat.le_refl _) _⟩
def ordGo (n:Int)(p:Option Int):LI→Bool
 |[]=>true
 |x::r=>litB x n && (match p with | none=>true | some y=>litLt y x) && ordGo n (some x) r
def ordB (n:Int)(xs:LI):Bool:=ordGo n none xs
theorem ordGo_cons (n:Int)(p:Option Int)(x:Int)(r:LI):ordGo n p (x::r)=(litB x n && (match p with | none=>true | some y=>litLt y x) && ordGo n (some x) r):=rfl
def prevAt {α:Type}(xs:List α):Nat→Option α
 |0=>none
 |j+1=>xs[j]?
theorem prevAt_succ {α:Type}(xs:List α)(j:Nat):prevAt xs (j+1)=xs[j]?:=rfl
theorem litB_bd {x n:Int}(h:litB x n=true) : -n≤x∧x≤n:=by simp[litB]at h;exact h.2
theorem ordered_any (A:OA)(l c:Nat)(xs:LI)(n:Int)(w:World)(h:SlIs intR w A l c xs)(hn:0≤n)(hn2:n≤4000):
  Calls Tryz.prog 44 #[.slice A l c,.int .i64 n] w fun e w'=>e=.returned (.bool (ordB n xs))∧Below w.heap.size w w':=by
 have hl:=h.cap;have hm:=h.max;have H:=Zq1 h;clear h;go_enter Tryz.func44,Tryz.ntmps44;go_wp2;go_loopw [9] (fun i wr=>∃k:Nat,k≤l∧i=.int .i64 k∧Below w.heap.size w wr∧(∀y,prevAt xs k=some y→-n≤y∧y≤n)∧ordB n xs=ordGo n (prevAt xs k) (xs.drop k)) (fun i _=>l-(intOf i).toNat)
 case atStart=>exact⟨0,Nat.zero_le _,rfl,Below.refl _ _,by simp[prevAt],rfl⟩
 case round=>
  obtain⟨k,hk,rfl,hbw,hy,hs⟩:=hrel
  obtain⟨HS,HY⟩:=Zq2 hs hy;clear hs hy
  have H1:=Zq1 (H.out.ext hbw);have HB:=Zq1 hbw;clear hbw
  by_cases hlt:k<l
  ·obtain⟨x,hx,hd⟩:=H.out.drop hlt
   obtain⟨b,off,rfl,_,hcell,_⟩:=H1.out.int hx
   obtain⟨HX,HD⟩:=Zq2 hx hd;clear hx hd
   have LIT:=fun w=>literal_any x n w hn hn2
   by_cases hlit:litB x n=true
   ·rcases Nat.eq_zero_or_pos k with rfl | hk0
    ·simp only[Nat.add_zero]at hcell;clear hk;go_wp2_with fail
     refine(LIT _).mono ?_;rintro e w' ⟨rfl,rfl⟩
     go_wp2_with fail;go_roundw;exact⟨1,by omega,rfl,HB.out,by intro y h2;rw[prevAt_succ,HX.out]at h2;cases h2;exact litB_bd hlit,by rw[HS.out,HD.out,ordGo_cons,hlit,prevAt_succ,HX.out];rfl⟩;simp[intOf];omega
    ·obtain⟨j,rfl⟩:∃j,k=j+1:=⟨k-1,by omega⟩
     obtain⟨y,hy,_⟩:=H.out.drop (k:=j) (by omega)
     have hyb:=HY.out y hy;have hxb:=litB_bd hlit
     obtain⟨b2,off2,he2,_,hcell2,_⟩:=H1.out.int hy
     cases he2;have HYY:=Zq1 hy;clear hy;have e1:IntKind.i64.wrap ((j:Int)+1-1)=j:=(by rw[IntWalk.i64_in _ (by omega)];omega);go_wp2_with fail
     refine(LIT _).mono ?_;rintro e w' ⟨rfl,rfl⟩
     go_wp2_with fail
     refine(order_any y x _ (by omega) (by omega) (by omega) (by omega)).mono ?_;rintro e w1 ⟨rfl,hb1⟩
     have HB1:=Zq1 hb1;clear hb1
     by_cases hlt2:litLt y x=true
     ·have hd2:decide (0≤ordI y x)=false:=(by rw[ordI_neg,hlt2];rfl);go_wp2_with fail;go_roundw;exact⟨j+2,by omega,by go_num,HB.out.trans (HB1.out.mono HB.out.size),by intro z h2;rw[prevAt_succ,HX.out]at h2;cases h2;exact hxb,by rw[HS.out,HD.out,ordGo_cons,hlit,prevAt_succ,HYY.out,prevAt_succ,HX.out];simp[hlt2]⟩;simp[intOf];omega
     ·have hd2:decide (0≤ordI y x)=true:=(by rw[ordI_neg];simpa using hlt2);go_wp2_with fail;go_ret
      exact⟨ret_bool (by rw[HS.out,HD.out,ordGo_cons,hlit,prevAt_succ,HYY.out];simp[hlt2]),HB.out.trans (HB1.out.mono HB.out.size)⟩
   ·have hlf:litB x n=false:=(by simpa using hlit);clear hlit;go_wp2_with fail
    refine(LIT _).mono ?_;rintro e w' ⟨rfl,rfl⟩
    go_wp2_with fail;go_ret
    exact⟨ret_bool (by rw[HS.out,HD.out,ordGo_cons,hlf];simp),HB.out⟩
  ·go_wp2;go_ret
   exact⟨ret_bool (by rw[HS.out,H.out.stop (by omega)];rfl),HB.out⟩
open Go.RowKit
def minGo (m:Int)(xs:LI):Int:=xs.foldl min m
theorem min_any (A:OA)(l c:Nat)(x0:Int)(xs:LI)(w:World)(h:SlIs intR w A l c (x0::xs)):
  Calls Tryz.prog 107 #[.slice A l c] w fun e w'=>e=.returned (.int .i64 (minGo x0 xs))∧w=w':=by
 have hl:=h.cap;have hm:=h.max
 obtain⟨b,off,rfl,_,hc0,_⟩:=h.int (k:=0) rfl
 simp only[Nat.add_zero]at hc0;generalize hys:x0::xs=ys at *;have hlen:1≤l:=by rw[h.len,← hys];simp
 have hy0:minGo x0 xs=minGo x0 (ys.drop 1):=by rw[← hys];rfl
 clear hys
 obtain⟨H,HY0⟩:=Zq2 h hy0;clear h hy0
 go_enter Tryz.func107,Tryz.ntmps107;go_wp2;go_loop [3,4] (fun m i=>∃(k:Nat) (z:Int),1≤k∧k≤l∧i=.int .i64 k∧m=.int .i64 z∧minGo x0 xs=minGo z (ys.drop k)) (fun _ i=>l-(intOf i).toNat)
 case atStart=>exact⟨1,x0,by omega,hlen,rfl,rfl,HY0.out⟩
 case round=>
  obtain⟨k,z,hk1,hk,rfl,rfl,hs⟩:=hrel
  have HS:=Zq1 hs;clear hs
  by_cases hlt:k<l
  ·obtain⟨x,hx,hd⟩:=H.out.drop hlt
   obtain⟨_,_,he,_,hcell,_⟩:=H.out.int hx
   cases he
   obtain⟨HX,HD⟩:=Zq2 hx hd;clear hx hd
   go_wp2
   all_goals
    go_round
    case rel=>exact⟨k+1,_,by omega,by omega,by go_num,rfl,by rw[HS.out,HD.out];unfold minGo;rw[List.foldl_cons];congr 1;omega⟩
    case measure=>simp[intOf];omega
  ·go_wp2;go_ret
   exact⟨ret_int (by rw[HS.out,H.out.stop (by omega)];rfl),rfl⟩
theorem minGo_pos (m:Int)(xs:LI):decide (0<minGo m xs)=(decide (0<m) && xs.all (fun x=>decide (0<x))):=by
 induction xs generalizing m with
 |nil=>exact(Bool.and_true _).symm
 |cons x r ih=>
  have h1:minGo m (x::r)=minGo (min m x) r:=rfl;rw[h1,ih,List.all_cons,← Bool.and_assoc]
  congr 1
  rw[Bool.eq_iff_iff];simp;omega
def incB (n:Int)(xs:LI):Bool:=ordB n xs && xs.all (fun x=>decide (0<x))
theorem increasing_any (A:OA)(l c:Nat)(xs:LI)(n:Int)(w:World)(h:SlIs intR w A l c xs)(hn:0≤n)(hn2:n≤4000):
  Calls Tryz.prog 67 #[.slice A l c,.int .i64 n] w fun e w'=>e=.returned (.bool (incB n xs))∧Below w.heap.size w w':=by
 have hl:=h.cap;have hm:=h.max;have hlen:=h.len;have H:=Zq1 h;clear h
 by_cases ho:ordB n xs=true
 ·cases xs with
  |nil=>
   obtain rfl:l=0:=hlen;go_enter Tryz.func67,Tryz.ntmps67;go_wp2_with fail;go_fit (ordered_any A 0 c [] n w H.out hn hn2);rintro e w1 ⟨rfl,hb1⟩;have HB:=Zq1 hb1;clear hb1;go_wp2_with fail;go_ret
   exact⟨rfl,HB.out⟩
  |cons x r=>
   have hlen2:((l:Int)==0)=false:=(by simp at hlen;simp;omega);clear hlen;go_enter Tryz.func67,Tryz.ntmps67;go_wp2_with fail;go_fit (ordered_any A l c (x::r) n w H.out hn hn2);rintro e w1 ⟨rfl,hb1⟩;have HB:=Zq1 hb1;clear hb1;go_wp2_with fail;go_fit (min_any A l c x r w1 (H.out.ext HB.out));rintro e w' ⟨rfl,rfl⟩;go_wp2_with fail
   all_goals go_ret
   all_goals exact⟨ret_bool (by simp only[incB,ho,Bool.true_and,List.all_cons,← minGo_pos]),HB.out⟩
 ·have hf:ordB n xs=false:=by simpa using ho
  clear ho hlen;go_enter Tryz.func67,Tryz.ntmps67;go_wp2_with fail;go_fit (ordered_any A l c xs n w H.out hn hn2);rintro e w1 ⟨rfl,hb1⟩;have HB:=Zq1 hb1;clear hb1;go_wp2_with fail;go_ret
  exact⟨ret_bool (by simp[incB,hf]),HB.out⟩
def wtGo (s:Int):LI→Bool
 |[]=>true
 |x::r=>decide (1≤x) && decide (x≤1048576-s) && wtGo (s+x) r
def wtB (xs:LI)(k:Nat):Bool:=wtGo 0 xs && decide (xs.length=k)
theorem weights_any (A:OA)(l c:Nat)(xs:LI)(n:Nat)(w:World)(h:SlIs intR w A l c xs):
  Calls Tryz.prog 45 #[.slice A l c,.int .i64 n] w fun e w'=>e=.returned (.bool (wtB xs n))∧w=w':=by
 have hl:=h.cap;have hm:=h.max;have H:=Zq1 h;clear h;go_enter Tryz.func45,Tryz.ntmps45;go_wp2;go_loop [5,10] (fun s i=>∃(k:Nat) (z:Int),k≤l∧i=.int .i64 k∧s=.int .i64 z∧0≤z∧z≤1048576∧wtGo 0 xs=wtGo z (xs.drop k)) (fun _ i=>l-(intOf i).toNat)
 case atStart=>exact⟨0,0,by omega,rfl,rfl,by omega,by omega,rfl⟩
 case round=>
  obtain⟨k,z,hk,rfl,rfl,hz1,hz2,hs⟩:=hrel
  have HS:=Zq1 hs;clear hs
  by_cases hlt:k<l
  ·obtain⟨x,hx,hd⟩:=H.out.drop hlt
   obtain⟨b,off,rfl,_,hcell,hx64⟩:=H.out.int hx
   unfold I64 at hx64
   obtain⟨hxa,hxb⟩:=hx64
   obtain⟨HX,HD⟩:=Zq2 hx hd;clear hx hd
   by_cases h1:x<1
   ·go_wp2;go_ret
    exact⟨ret_bool (by rw[wtB,HS.out,HD.out,wtGo,decide_eq_false (by omega)];simp),rfl⟩
   ·by_cases h2:1048576-z<x
    ·go_wp2;go_ret
     exact⟨ret_bool (by rw[wtB,HS.out,HD.out,wtGo,decide_eq_true (by omega),decide_eq_false (by omega)];simp),rfl⟩
    ·go_wp2;go_round
     case rel=>exact⟨k+1,z+x,by omega,by go_num,rfl,by omega,by omega,by rw[HS.out,HD.out,wtGo,decide_eq_true (by omega),decide_eq_true (by omega)];simp⟩
     case measure=>simp[intOf];omega
  ·go_wp2;go_ret
   exact⟨ret_bool (by rw[wtB,HS.out,H.out.stop (by omega),← H.out.len,Bool.eq_iff_iff];simp[wtGo];omega),rfl⟩
open Go.RowKit
def ruleE (r:GRule)(n:Int):Int:=
 if n<0∨4000<n then 2
 else if incB n r.head=false∨(r.choice=true∧r.head.length=0)then 172
 else if ordB n r.body=false then 173
 else if (r.sum=false∧(0<r.w.length∨r.bound≠0))∨(r.sum=true∧(wtB r.w r.body.length=false∨r.bound<0∨1048576<r.bound))then 174
 else 0
theorem rule_any (r:GRule)(hA:OA)(hl hc:Nat)(bA:OA)(bl bc:Nat)(wA:OA)(wl wc:Nat)(n:Int)(w:World)(hr:RuleIn w r hA hl hc bA bl bc wA wl wc):
  Calls Tryz.prog 28 #[.agg #[.bool r.choice,.slice hA hl hc,.bool r.sum,.int .i64 r.bound,.slice bA bl bc,.slice wA wl wc],.int .i64 n] w fun e w'=>e=.returned (.int .i64 (ruleE r n))∧Below w.heap.size w w':=by
 have e1:=Zq1 hr.head.len;have e2:=Zq1 hr.body.len;have e3:=Zq1 hr.wt.len;have HR:=Zq1 hr;clear hr;go_enter Tryz.func28,Tryz.ntmps28
 go_wp2_with (first
  | (go_at_call 67;refine(increasing_any _ _ _ _ _ _ (HR.out.head.ext (bel_alloc _ _)) (by omega) (by omega)).mono ?_;rintro e w1 ⟨rfl,hb1⟩;have hc1:=bcell hb1;have hz1:=bsz hb1;have HB1:=bel_trans (bel_alloc _ _) hb1;clear hb1)
  | (go_at_call 44;refine(ordered_any _ _ _ _ _ _ (HR.out.body.ext HB1) (by omega) (by omega)).mono ?_;rintro e w2 ⟨rfl,hb2⟩;have hc2:=bcell hb2;have HB2:=bel_trans HB1 hb2;clear hb2)
  | (go_at_call 45;refine(weights_any _ _ _ _ _ _ (HR.out.wt.ext HB2)).mono ?_;rintro e w3 ⟨rfl,rfl⟩))
 all_goals go_ret
 all_goals refine⟨ret_int ?_,by first | assumption | exact bel_alloc _ _⟩
 all_goals (unfold ruleE;rw[← e1.out,← e2.out,← e3.out];clear e1 e2 e3;simp_all <;> omega)
open Go.RowKit
structure Later (W:World) where
 w:World
 h:Below W.heap.size W w
instance (W:World):Nonempty (Later W):=⟨⟨W,Below.refl _ _⟩⟩
theorem Later.cell {W:World}(u:Later W){a:Addr}{v:Value}(h:W.cell? a=some v):u.w.cell? a=some v:=by
 rw[u.h.cell (World.block_lt_of_cell? W a h)];exact h
theorem wp_region_later {P:Program}{id:Nat}{Q:Exit→Act→World→Prop}{a:Act}{w:World}{l:List Oper}(fs:List (Addr×Value))
  (hm:P.follows .mixedOrders=true) (hB:Region.lexB .any l.toArray=true) (hf:∀f∈fs,w.cell? f.1=some f.2)
  (h:(∀f∈fs,∀u:Later w,u.w.cell? f.1=some f.2)→wpQuiet P l.toArray (fun w'=>∃u:Later w,w'=u.w) (fun a'=>∀w',(∃u:Later w,w'=u.w)→Q .normal a' w') l a):
  (Code.region id l.toArray true).wp P Q a w:=
 wp_region_quiet (C:=fun w'=>∃u:Later w,w'=u.w) hm hB ⟨⟨w.drew,(Below.refl _ _).drew⟩,rfl⟩ (by simpa using h (fun f hfs u=>u.cell (hf f hfs)))
theorem Calls.later {P:Program}{f:FuncId}{args:Array Value}{W:World}{u:Later W}{v:Value}
  (h:Calls P f args u.w fun e w'=>e=.returned v∧Below u.w.heap.size u.w w'):Calls P f args u.w fun e w''=>e=.returned v∧∃u':Later W,w''=u'.w:=
 h.mono fun _ _ ⟨he,hm⟩=>⟨he,⟨_,bel_trans u.h hm⟩,rfl⟩
theorem Calls.later_same {P:Program}{f:FuncId}{args:Array Value}{W:World}{u:Later W}{v:Value}
  (h:Calls P f args u.w fun e w'=>e=.returned v∧u.w=w'):Calls P f args u.w fun e w''=>e=.returned v∧∃u':Later W,w''=u'.w:=
 h.mono fun _ _ ⟨he,hm⟩=>⟨he,u,hm.symm⟩
open Go.RowKit
def atomsGo (n:Int)(p:Option Int):LI→Bool
 |[]=>true
 |x::r=>decide (1≤x) && decide (x≤n) && (match p with | none=>true | some y=>decide (y<x)) && atomsGo n (some x) r
theorem atomsGo_cons (n:Int)(p:Option Int)(x:Int)(r:LI):atomsGo n p (x::r)=(decide (1≤x) && decide (x≤n) && (match p with | none=>true | some y=>decide (y<x)) && atomsGo n (some x) r):=rfl
theorem ordGo_atoms (n:Int):∀(xs:LI)(p:Option Int),(∀y,p=some y→0<y)→(ordGo n p xs && xs.all (fun x=>decide (0<x)))=atomsGo n p xs
 |[],p,_=>rfl
 |x::r,p,hp=>by
  by_cases hx:0<x
  ·have ih:=ordGo_atoms n r (some x) (by rintro y h;cases h;exact hx);rw[ordGo_cons,atomsGo_cons,List.all_cons,decide_eq_true hx,Bool.true_and,← ih,decide_eq_true (show 1≤x by omega)]
   have h1:litB x n=decide (x≤n):=by
    have:¬x=0:=(by omega)
    rw[Bool.eq_iff_iff];simp[litB,this];omega
   rw[h1,Bool.true_and,Bool.and_assoc]
   cases p with
   |none=>rfl
   |some y=>
    have hy:=hp y rfl;have a1:absI y=y:=(by unfold absI;rw[if_neg (by omega)]);have a2:absI x=x:=(by unfold absI;rw[if_neg (by omega)])
    have h2:litLt y x=decide (y<x):=by
     simp only[litLt,a1,a2];rw[Bool.eq_iff_iff];simp;omega
    simp only[h2]
  ·have h1:¬1≤x:=(by omega);rw[atomsGo_cons,List.all_cons,decide_eq_false hx,decide_eq_false h1];simp
theorem incB_atoms (n:Int)(xs:LI):incB n xs=atomsGo n none xs:=ordGo_atoms n xs none (by simp)
open Go.RowKit
theorem bel_alloc2 (w:World)(o p:Obj):Below w.heap.size w ((w.alloc o).alloc p):=(bel_alloc w o).alloc (by simp) p
theorem eq_cons {α:Type} [DecidableEq α] (x y:α)(a b:List α):decide (x::a=y::b)=(decide (x=y) && decide (a=b)):=by
 rw[Bool.eq_iff_iff];simp
theorem eq_len {α:Type} [DecidableEq α] {a b:List α}(h:a.length≠b.length):decide (a=b)=false:=decide_eq_false (fun e=>h (by rw[e]))
theorem lawInts_any (aA:OA)(al ac:Nat)(bA:OA)(bl bc:Nat)(xs ys:LI)(w:World)(ha:SlIs intR w aA al ac xs)(hb:SlIs intR w bA bl bc ys):
  Calls Tryz.prog 26 #[.slice aA al ac,.slice bA bl bc] w fun e w'=>e=.returned (.bool (decide (xs=ys)))∧Below w.heap.size w w':=by
 have hl:=ha.cap;have hm:=ha.max;have hl2:=hb.cap;have hm2:=hb.max;have la:=Zq1 ha.len;have lb:=Zq1 hb.len
 obtain⟨HA,HB⟩:=Zq2 ha hb;clear ha hb
 by_cases hne:al=bl
 ·subst hne;go_enter Tryz.func26,Tryz.ntmps26;go_wp2;go_loopw [13] (fun i wr=>∃k:Nat,k≤al∧i=.int .i64 k∧Below w.heap.size w wr∧decide (xs=ys)=decide (xs.drop k=ys.drop k)) (fun i _=>al-(intOf i).toNat)
  case atStart=>exact⟨0,Nat.zero_le _,rfl,Below.refl _ _,rfl⟩
  case round=>
   obtain⟨k,hk,rfl,hbw,hs⟩:=hrel
   have H1:=Zq1 (HA.out.ext hbw);have H2:=Zq1 (HB.out.ext hbw);have HBW:=Zq1 hbw;clear hbw;have HS:=Zq1 hs;clear hs
   by_cases hlt:k<al
   ·obtain⟨x,hx,hd⟩:=HA.out.drop hlt
    obtain⟨y,hy,hd2⟩:=HB.out.drop hlt
    obtain⟨b,off,rfl,_,hcell,_⟩:=H1.out.int hx
    obtain⟨b2,off2,rfl,_,hcell2,_⟩:=H2.out.int hy
    obtain⟨HX,HD,HY,HD2⟩:=Zq4 hx hd hy hd2;clear hx hd hy hd2
    have i0:(0:Int)≤(k:Int):=(by omega);have i1:(k:Int)<(al:Int):=(by omega)
    by_cases he:x=y
    ·have HE:=Zq1 he;have e1:(x != y)=false:=(by simpa using he);clear he;go_wp2_with fail;refine wp_region_later [(⟨b,off+k,none⟩,.int .i64 x),(⟨b2,off2+k,none⟩,.int .i64 y)] (by kernel_rfl) (by kernel_rfl) (by simp[go_sem, *]) ?_;intro hk;simp only[List.forall_mem_cons]at hk;obtain⟨k1_0,k1_1,kz⟩:=hk;clear kz
     repeat go_big_quiet_step (fail)
     refine wpQuiet_nil ?_;rintro w2 ⟨u1,rfl⟩;have HU1:=Zq1 u1.h;clear k1_0 k1_1;go_wp2_with fail;go_roundw;exact⟨k+1,by omega,by go_num,bel_trans HBW.out HU1.out,by rw[HS.out,HD.out,HD2.out,eq_cons,decide_eq_true HE.out,Bool.true_and]⟩;simp[intOf];omega
    ·have HE:=Zq1 he;have e1:(x != y)=true:=(by simpa using he);clear he;go_wp2_with fail;refine wp_region_later [(⟨b,off+k,none⟩,.int .i64 x),(⟨b2,off2+k,none⟩,.int .i64 y)] (by kernel_rfl) (by kernel_rfl) (by simp[go_sem, *]) ?_;intro hk;simp only[List.forall_mem_cons]at hk;obtain⟨k1_0,k1_1,kz⟩:=hk;clear kz
     repeat go_big_quiet_step (fail)
     refine wpQuiet_nil ?_;rintro w2 ⟨u1,rfl⟩;have HU1:=Zq1 u1.h;clear k1_0 k1_1;go_wp2_with fail;go_ret
     exact⟨ret_bool (by rw[HS.out,HD.out,HD2.out,eq_cons,decide_eq_false HE.out,Bool.false_and]),bel_trans HBW.out HU1.out⟩
   ·go_wp2;go_ret
    exact⟨ret_bool (by rw[HS.out,HA.out.stop (by omega),HB.out.stop (by omega)];rfl),HBW.out⟩
 ·have hn2:((al:Int) != (bl:Int))=true:=by simp;omega
  have HNE:=Zq1 hne;clear hne;go_enter Tryz.func26,Tryz.ntmps26;go_wp2;go_ret
  exact⟨ret_bool (eq_len (by rw[← la.out,← lb.out];exact HNE.out)).symm,Below.refl _ _⟩
theorem refInts_any (aA:OA)(al ac:Nat)(bA:OA)(bl bc:Nat)(xs ys:LI)(w:World)(ha:SlIs intR w aA al ac xs)(hb:SlIs intR w bA bl bc ys):
  Calls Tryz.prog 89 #[.slice aA al ac,.slice bA bl bc] w fun e w'=>e=.returned (.bool (decide (xs=ys)))∧Below w.heap.size w w':=by
 have hl:=ha.cap;have hm:=ha.max;have hl2:=hb.cap;have hm2:=hb.max;have la:=Zq1 ha.len;have lb:=Zq1 hb.len
 obtain⟨HA,HB⟩:=Zq2 ha hb;clear ha hb
 by_cases hne:al=bl
 ·subst hne;go_enter Tryz.func89,Tryz.ntmps89;go_wp2;go_loopw [5] (fun i wr=>∃k:Nat,k≤al∧i=.int .i64 k∧Below w.heap.size w wr∧decide (xs=ys)=decide (xs.drop k=ys.drop k)) (fun i _=>al-(intOf i).toNat)
  case atStart=>exact⟨0,Nat.zero_le _,rfl,Below.refl _ _,rfl⟩
  case round=>
   obtain⟨k,hk,rfl,hbw,hs⟩:=hrel
   have H1:=Zq1 (HA.out.ext hbw);have H2:=Zq1 (HB.out.ext hbw);have HBW:=Zq1 hbw;clear hbw;have HS:=Zq1 hs;clear hs
   by_cases hlt:k<al
   ·obtain⟨x,hx,hd⟩:=HA.out.drop hlt
    obtain⟨y,hy,hd2⟩:=HB.out.drop hlt
    obtain⟨b,off,rfl,_,hcell,_⟩:=H1.out.int hx
    obtain⟨b2,off2,rfl,_,hcell2,_⟩:=H2.out.int hy
    obtain⟨HX,HD,HY,HD2⟩:=Zq4 hx hd hy hd2;clear hx hd hy hd2
    have i0:(0:Int)≤(k:Int):=(by omega);have i1:(k:Int)<(al:Int):=(by omega)
    by_cases he:x=y
    ·have HE:=Zq1 he;have e1:(x != y)=false:=(by simpa using he);clear he;go_wp2_with fail;refine wp_region_later [(⟨b,off+k,none⟩,.int .i64 x),(⟨b2,off2+k,none⟩,.int .i64 y)] (by kernel_rfl) (by kernel_rfl) (by simp[go_sem, *]) ?_;intro hk;simp only[List.forall_mem_cons]at hk;obtain⟨k1_0,k1_1,kz⟩:=hk;clear kz
     repeat go_big_quiet_step (fail)
     refine wpQuiet_nil ?_;rintro w2 ⟨u1,rfl⟩;have HU1:=Zq1 u1.h;clear k1_0 k1_1;go_wp2_with fail;go_roundw;exact⟨k+1,by omega,by go_num,bel_trans HBW.out HU1.out,by rw[HS.out,HD.out,HD2.out,eq_cons,decide_eq_true HE.out,Bool.true_and]⟩;simp[intOf];omega
    ·have HE:=Zq1 he;have e1:(x != y)=true:=(by simpa using he);clear he;go_wp2_with fail;refine wp_region_later [(⟨b,off+k,none⟩,.int .i64 x),(⟨b2,off2+k,none⟩,.int .i64 y)] (by kernel_rfl) (by kernel_rfl) (by simp[go_sem, *]) ?_;intro hk;simp only[List.forall_mem_cons]at hk;obtain⟨k1_0,k1_1,kz⟩:=hk;clear kz
     repeat go_big_quiet_step (fail)
     refine wpQuiet_nil ?_;rintro w2 ⟨u1,rfl⟩;have HU1:=Zq1 u1.h;clear k1_0 k1_1;go_wp2_with fail;go_ret
     exact⟨ret_bool (by rw[HS.out,HD.out,HD2.out,eq_cons,decide_eq_false HE.out,Bool.false_and]),bel_trans HBW.out HU1.out⟩
   ·go_wp2;go_ret
    exact⟨ret_bool (by rw[HS.out,HA.out.stop (by omega),HB.out.stop (by omega)];rfl),HBW.out⟩
 ·have hn2:((al:Int) != (bl:Int))=true:=by simp;omega
  have HNE:=Zq1 hne;clear hne;go_enter Tryz.func89,Tryz.ntmps89;go_wp2;go_ret
  exact⟨ret_bool (eq_len (by rw[← la.out,← lb.out];exact HNE.out)).symm,Below.refl _ _⟩
theorem rule_eq (r s:GRule):decide (r=s)=(decide (r.choice=s.choice) && decide (r.sum=s.sum) && decide (r.bound=s.bound) && decide (r.head=s.head) && decide (r.body=s.body) && decide (r.w=s.w)):=by
 obtain⟨c,h,s1,b,y,w⟩:=r
 obtain⟨c',h',s1',b',y',w'⟩:=s
 rw[Bool.eq_iff_iff];simp;constructor <;> (intro h;simp_all)
theorem sameRule_any (r s:GRule)(hA:OA)(hl hc:Nat)(bA:OA)(bl bc:Nat)(wA:OA)(wl wc:Nat)(iA:OA)(il ic:Nat)(cA:OA)(cl cc:Nat)(xA:OA)(xl xc:Nat)(w:World)(hr:RuleIn w r hA hl hc bA bl bc wA wl wc)(hs:RuleIn w s iA il ic cA cl cc xA xl xc):
  Calls Tryz.prog 90 #[.agg #[.bool r.choice,.slice hA hl hc,.bool r.sum,.int .i64 r.bound,.slice bA bl bc,.slice wA wl wc],.agg #[.bool s.choice,.slice iA il ic,.bool s.sum,.int .i64 s.bound,.slice cA cl cc,.slice xA xl xc]] w fun e w'=>e=.returned (.bool (decide (r=s)))∧Below w.heap.size w w':=by
 have heq:=rule_eq r s
 obtain⟨HR,HS,HEQ⟩:=Zq3 hr hs heq;clear hr hs heq
 generalize he1:decide (r.head=s.head)=e1 at *;generalize he2:decide (r.body=s.body)=e2 at *;generalize he3:decide (r.w=s.w)=e3 at *;have c1:=fun W (hb:Below w.heap.size w W)=>he1 ▸ refInts_any _ _ _ _ _ _ _ _ W (HR.out.head.ext hb) (HS.out.head.ext hb);have c2:=fun W (hb:Below w.heap.size w W)=>he2 ▸ refInts_any _ _ _ _ _ _ _ _ W (HR.out.body.ext hb) (HS.out.body.ext hb);have c3:=fun W (hb:Below w.heap.size w W)=>he3 ▸ refInts_any _ _ _ _ _ _ _ _ W (HR.out.wt.ext hb) (HS.out.wt.ext hb);clear he1 he2 he3;have C1:=Zq1 c1;have C2:=Zq1 c2;have C3:=Zq1 c3;clear c1 c2 c3
 by_cases hq:r.choice=s.choice∧r.sum=s.sum∧r.bound=s.bound
 ·obtain⟨q1,q2,q3⟩:=hq
  have b1:(r.choice==s.choice)=true:=by simpa using q1
  have b2:(r.sum==s.sum)=true:=by simpa using q2
  have b3:(r.bound==s.bound)=true:=by simpa using q3
  obtain⟨Q1,Q2,Q3⟩:=Zq3 q1 q2 q3;clear q1 q2 q3
  cases e1
  ·go_enter Tryz.func90,Tryz.ntmps90;go_wp2_with fail;go_fit (C1.out _ (bel_alloc2 _ _ _));rintro e w1 ⟨rfl,hb1⟩;have HB1:=Zq1 (bel_trans (bel_alloc2 _ _ _) hb1);clear hb1;go_wp2_with fail;go_ret
   exact⟨ret_bool (by rw[HEQ.out];simp),HB1.out⟩
  ·cases e2
   ·go_enter Tryz.func90,Tryz.ntmps90;go_wp2_with fail;go_fit (C1.out _ (bel_alloc2 _ _ _));rintro e w1 ⟨rfl,hb1⟩;have hc1:=bcell hb1;have HB1:=Zq1 (bel_trans (bel_alloc2 _ _ _) hb1);clear hb1;go_wp2_with fail;go_fit (C2.out _ HB1.out);rintro e w2 ⟨rfl,hb2⟩;have HB2:=Zq1 (bel_trans HB1.out hb2);clear hb2;go_wp2_with fail;go_ret
    exact⟨ret_bool (by rw[HEQ.out];simp),HB2.out⟩
   ·go_enter Tryz.func90,Tryz.ntmps90;go_wp2_with fail;go_fit (C1.out _ (bel_alloc2 _ _ _));rintro e w1 ⟨rfl,hb1⟩;have hc1:=bcell hb1;have hz1:w.heap.size+1<w1.heap.size:=(by have:=hb1.size;simp at this;omega);have hz0:w.heap.size<w1.heap.size:=(by omega);have HB1:=Zq1 (bel_trans (bel_alloc2 _ _ _) hb1);clear hb1;go_wp2_with fail;go_fit (C2.out _ HB1.out);rintro e w2 ⟨rfl,hb2⟩;have hc2:=bcell hb2;have HB2:=Zq1 (bel_trans HB1.out hb2);clear hb2;go_wp2_with fail;go_fit (C3.out _ HB2.out);rintro e w3 ⟨rfl,hb3⟩;have HB3:=Zq1 (bel_trans HB2.out hb3);clear hb3;go_wp2_with fail;go_ret
    exact⟨ret_bool (by rw[HEQ.out,decide_eq_true Q1.out,decide_eq_true Q2.out,decide_eq_true Q3.out];simp),HB3.out⟩
 ·have HQ:=Zq1 hq;clear hq;go_enter Tryz.func90,Tryz.ntmps90;go_wp2_with fail
  ·exact absurd ⟨‹_›,‹_›,‹_›⟩ HQ.out
  all_goals go_ret
  all_goals exact⟨ret_bool (by rw[HEQ.out];simp[*]),bel_alloc2 _ _ _⟩

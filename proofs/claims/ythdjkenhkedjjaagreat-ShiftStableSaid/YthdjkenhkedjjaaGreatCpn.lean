/- Cpn -/
import Derived.Test.YthdjkenhkedjjaaGreatCps
set_option maxRecDepth 100000
set_option maxHeartbeats 8000000
namespace Go.Proofs.YthdjkenhkedjjaaGreat
open Go.RowKit
def ArrAt (w3:World)(n:Nat)(w':World)(u:Value):Prop:=∃q,u=.slice (some ⟨q,0,none⟩) n n∧w3.heap.size≤q∧Blk w' q 3 (intC (List.replicate n 0))
def BoxAt (w3 w':World)(u x:Value):Prop:=∃q,u=.pointer (some ⟨q,0,none⟩)∧w3.heap.size≤q∧Blk w' q 23 #[x]
theorem ArrAt.bel {w3 w' v:World}{n:Nat}{u:Value}(h:ArrAt w3 n w' u)(hb:Below w'.heap.size w' v):ArrAt w3 n v u:=by
 obtain⟨q,e,h1,h2⟩:=h;exact⟨q,e,h1,h2.bel hb⟩
theorem BoxAt.bel {w3 w' v:World}{u x:Value}(h:BoxAt w3 w' u x)(hb:Below w'.heap.size w' v):BoxAt w3 v u x:=by
 obtain⟨q,e,h1,h2⟩:=h;exact⟨q,e,h1,h2.bel hb⟩
theorem ArrAt.set {w3 w':World}{n:Nat}{u x:Value}(h:ArrAt w3 n w' u){q:Nat}(hq:Blk w' q 23 #[x])(y:Value):ArrAt w3 n (w'.setCell ⟨q,0,none⟩ y) u:=by
 obtain⟨p,e,h1,h2⟩:=h
 exact⟨p,e,h1,h2.far (fun e2=>by
  have e2:p=q:=e2;subst e2
  have:=h2.symm.trans hq
  simp at this) y⟩
theorem BoxAt.set {w3 w':World}{u x:Value}(h:BoxAt w3 w' u x){q:Nat}(hn : .pointer (some ⟨q,0,none⟩)≠u)(y:Value):BoxAt w3 (w'.setCell ⟨q,0,none⟩ y) u x:=by
 obtain⟨p,e,h1,h2⟩:=h
 exact⟨p,e,h1,h2.far (fun e2=>by
  have e2:p=q:=e2;subst e2;exact hn e.symm) y⟩
theorem ArrAt.new {w3 w':World}{n:Nat}(h:w3.heap.size≤w'.heap.size):ArrAt w3 n (w'.alloc (.cells (intC (List.replicate n 0)) 3)) (.slice (some ⟨w'.heap.size,0,none⟩) n n):=⟨_,rfl,h,blk_new rfl _ _⟩
theorem BoxAt.new {w3 w':World}(h:w3.heap.size≤w'.heap.size):BoxAt w3 (w'.alloc (.cells #[.slice none 0 0] 23)) (.pointer (some ⟨w'.heap.size,0,none⟩)) (.slice none 0 0):=⟨_,rfl,h,blk_new rfl _ _⟩
theorem ArrAt.ne {w3 w':World}{n l c:Nat}{u:Value}(h:ArrAt w3 n w' u){q:Nat}(hq:w'.heap.size≤q):u≠.slice (some ⟨q,0,none⟩) l c:=fun e=>by
 obtain⟨p,e2,-,h2⟩:=h
 rw[e2]at e;injection e with e;injection e with e;injection e with e
 have:=h2.lt;omega
theorem BoxAt.ne {w3 w':World}{u x:Value}(h:BoxAt w3 w' u x){q:Nat}(hq:w'.heap.size≤q):u≠.pointer (some ⟨q,0,none⟩):=fun e=>by
 obtain⟨p,e2,-,h2⟩:=h
 rw[e2]at e;injection e with e;injection e with e;injection e with e
 have:=h2.lt;omega
theorem components_fr (gA:OA)(gl gc:Nat)(g:List (LI))(w:World)(hg:GOk g)(h1:1≤gl)(hs:SlIs (slR intR) w gA gl gc g):
  Calls Tryz.prog 64 #[.slice gA gl gc] w fun e w'=>∃A l c,e=.returned (.slice A l c)∧SlIs (frR w.heap.size) w' A l c (compT g)∧Below w.heap.size w w':=by
 have hlc:=hs.cap;have hlm:=hs.max;have hlen:=hs.len;have hn4:gl≤4001:=hlen ▸ hg.len
 have hmk:∀W:World,(Instr.makeSlice 23 (.int .i64 (gl:Int)) (.int .i64 (gl:Int))).run Tryz.prog W=.ok (.slice (some ⟨W.heap.size,0,none⟩) gl gl) (W.alloc (.cells (intC (List.replicate gl 0)) 3)):=fun W=>by
  have h:=run_make_row' (P:=Tryz.prog) 23 3 (.int .i64 0) 8 Tryz.underlying23 info_int rfl .i64 .i64 gl (by omega) (by omega) W
  have e:madeCells #[Value.int .i64 0] gl=intC (List.replicate gl 0):=by
   unfold madeCells intC;apply Array.ext
   ·simp
   ·intro i h1 h2;simp[Nat.mod_one]
  rwa [e]at h
 obtain⟨HS,HLEN,HG⟩:=Zq3 hs hlen hg;clear hs hlen hg
 go_enter Tryz.func64,Tryz.ntmps64;go_upto_region 3 with fail;have hkg:Blk (((w.alloc (.cells #[.slice gA gl gc] 91)).alloc (.cells #[.slice none 0 0] 61)).alloc (.cells #[.slice none 0 0] 23)) w.heap.size 91 #[.slice gA gl gc]:=((blk_new rfl _ _).alloc _).alloc _;have hko:Blk (((w.alloc (.cells #[.slice gA gl gc] 91)).alloc (.cells #[.slice none 0 0] 61)).alloc (.cells #[.slice none 0 0] 23)) (w.heap.size+1) 61 #[.slice none 0 0]:=(blk_new (by simp) _ _).alloc _;have hks:Blk (((w.alloc (.cells #[.slice gA gl gc] 91)).alloc (.cells #[.slice none 0 0] 61)).alloc (.cells #[.slice none 0 0] 23)) (w.heap.size+1+1) 23 #[.slice none 0 0]:=blk_new (by simp) _ _;have hb3:Below w.heap.size w (((w.alloc (.cells #[.slice gA gl gc] 91)).alloc (.cells #[.slice none 0 0] 61)).alloc (.cells #[.slice none 0 0] 23)):=bel_trans (bel_trans (bel_alloc _ _) (bel_alloc _ _)) (bel_alloc _ _);have hz3:w.heap.size+3≤(((w.alloc (.cells #[.slice gA gl gc] 91)).alloc (.cells #[.slice none 0 0] 61)).alloc (.cells #[.slice none 0 0] 23)).heap.size:=(by simp);generalize (((w.alloc (.cells #[.slice gA gl gc] 91)).alloc (.cells #[.slice none 0 0] 61)).alloc (.cells #[.slice none 0 0] 23))=w3 at *
 obtain⟨HKG,HKO,HKS,HB3⟩:=Zq4 hkg hko hks hb3;clear hkg hko hks hb3
 refine wp_region_inv (fun listed a' w'=>∃(b0 b1 b2 b3 b4 b5 b6 b7 b8 b9 b10 b11 b12 b13 b14:Bool) (u5 u6 u7 u11 u12 u13 u14 u15 u16 u17 u18 u19:Value),listed=#[b0,b1,b2,b3,b4,b5,b6,b7,b8,b9,b10,b11,b12,b13,b14]∧a'={ tmps:=#[.slice gA gl gc,.pointer (some ⟨w.heap.size,0,none⟩),.slice none 0 0,.pointer (some ⟨w.heap.size+1,0,none⟩),.pointer (some ⟨w.heap.size+1+1,0,none⟩),u5,u6,u7,undef,undef,undef,u11,u12,u13,u14,u15,u16,u17,u18,u19,undef,undef,undef,undef,undef,undef,undef,undef,undef,undef,undef,undef,undef,undef,undef,undef],defers:=[] }∧(Below w3.heap.size w3 w')∧(Blk w' w.heap.size 91 #[.slice gA gl gc])∧(b0=true→u11=.slice gA gl gc)∧(b1=true→u12=.int .i64 (gl:Int))∧(b3=true→u14=.slice gA gl gc)∧(b4=true→u15=.int .i64 (gl:Int))∧(b6=true→u17=.slice gA gl gc)∧(b7=true→u18=.int .i64 (gl:Int))∧(b2=true→ArrAt w3 gl w' u13)∧(b5=true→ArrAt w3 gl w' u16)∧(b8=true→ArrAt w3 gl w' u19)∧(b9=true→BoxAt w3 w' u5 (bif b12 then u13 else .slice none 0 0))∧(b10=true→BoxAt w3 w' u6 (bif b13 then u16 else .slice none 0 0))∧(b11=true→BoxAt w3 w' u7 (bif b14 then u19 else .slice none 0 0))∧(b12=true→b9=true∧b2=true)∧(b13=true→b10=true∧b5=true)∧(b14=true→b11=true∧b8=true)∧(b2=true→b5=true→u13≠u16)∧(b2=true→b8=true→u13≠u19)∧(b5=true→b8=true→u16≠u19)∧(b9=true→b10=true→u5≠u6)∧(b9=true→b11=true→u5≠u7)∧(b10=true→b11=true→u6≠u7)) (by kernel_rfl) ?start ?step ?_
 case start=>exact⟨false,false,false,false,false,false,false,false,false,false,false,false,false,false,false,_,_,_,_,_,_,_,_,_,_,_,_,rfl,rfl,(Below.refl _ _).drew,HKG.out.drew,(by simp),(by simp),(by simp),(by simp),(by simp),(by simp),(by simp),(by simp),(by simp),(by simp),(by simp),(by simp),(by simp),(by simp),(by simp),(by simp),(by simp),(by simp),(by simp),(by simp),(by simp)⟩
 case step=>
  rintro listed a' w' i o ⟨b0,b1,b2,b3,b4,b5,b6,b7,b8,b9,b10,b11,b12,b13,b14,u5,u6,u7,u11,u12,u13,u14,u15,u16,u17,u18,u19,rfl,rfl,hB,hG,f0,f1,f3,f4,f6,f7,m1,m2,m3,x1,x2,x3,c1,c2,c3,d12,d13,d23,e12,e13,e23⟩ ho hli hd K hK;have Zqx:=fun i h=>hd ⟨i,.data⟩ h rfl
  match i,ho,hli,hd with
  |0,ho,hli,hd=>obtain⟨rfl,rfl⟩:_∧b0=false:=Zqj ho hli;have hm:w'.cell? ⟨w.heap.size,0,none⟩=some (.slice gA gl gc):=hG.cell 0;have HH:=Zq1 (And.intro c1 (And.intro c2 c3));clear c1 c2 c3;go_simp;exact hK _ _ ⟨_,_,_,_,_,_,_,_,_,_,_,_,_,_,_,_,_,_,_,_,_,_,_,_,_,_,_,rfl,rfl,hB,hG,(fun _=>rfl),f1,f3,f4,f6,f7,m1,m2,m3,x1,x2,x3,HH.out.1,HH.out.2.1,HH.out.2.2,d12,d13,d23,e12,e13,e23⟩
  |1,ho,hli,hd=>obtain⟨rfl,rfl⟩:_∧b1=false:=Zqj ho hli;obtain rfl:b0=true:=Zqx 0 (by simp);obtain rfl:=f0 rfl;have HH:=Zq1 (And.intro c1 (And.intro c2 c3));clear c1 c2 c3;go_simp;exact hK _ _ ⟨_,_,_,_,_,_,_,_,_,_,_,_,_,_,_,_,_,_,_,_,_,_,_,_,_,_,_,rfl,rfl,hB,hG,f0,(fun _=>rfl),f3,f4,f6,f7,m1,m2,m3,x1,x2,x3,HH.out.1,HH.out.2.1,HH.out.2.2,d12,d13,d23,e12,e13,e23⟩
  |2,ho,hli,hd=>
   obtain⟨rfl,rfl⟩:_∧b2=false:=Zqj ho hli;obtain rfl:b1=true:=Zqx 1 (by simp)
   have e12:b12=false:=by
    cases hh:b12 with
    |false=>rfl
    |true=>have:=(c1 hh).2;cases this
   subst e12;obtain rfl:=f1 rfl;have hb:=bel_alloc w' (.cells (intC (List.replicate gl 0)) 3);have hS:w3.heap.size≤w'.heap.size:=hB.size;have HH:=Zq1 (And.intro c1 (And.intro c2 c3));clear c1 c2 c3;go_simp;exact hK _ _ ⟨_,_,_,_,_,_,_,_,_,_,_,_,_,_,_,_,_,_,_,_,_,_,_,_,_,_,_,rfl,rfl,(bel_trans hB hb),(hG.bel hb),f0,f1,f3,f4,f6,f7,(fun _=>ArrAt.new hS),(fun e=>(m2 e).bel hb),(fun e=>(m3 e).bel hb),(fun e=>(x1 e).bel hb),(fun e=>(x2 e).bel hb),(fun e=>(x3 e).bel hb),(fun e=>by cases e),HH.out.2.1,HH.out.2.2,(fun _ e q=>(m2 e).ne (Nat.le_refl _) q.symm),(fun _ e q=>(m3 e).ne (Nat.le_refl _) q.symm),d23,e12,e13,e23⟩
  |3,ho,hli,hd=>obtain⟨rfl,rfl⟩:_∧b3=false:=Zqj ho hli;have hm:w'.cell? ⟨w.heap.size,0,none⟩=some (.slice gA gl gc):=hG.cell 0;have HH:=Zq1 (And.intro c1 (And.intro c2 c3));clear c1 c2 c3;go_simp;exact hK _ _ ⟨_,_,_,_,_,_,_,_,_,_,_,_,_,_,_,_,_,_,_,_,_,_,_,_,_,_,_,rfl,rfl,hB,hG,f0,f1,(fun _=>rfl),f4,f6,f7,m1,m2,m3,x1,x2,x3,HH.out.1,HH.out.2.1,HH.out.2.2,d12,d13,d23,e12,e13,e23⟩
  |4,ho,hli,hd=>obtain⟨rfl,rfl⟩:_∧b4=false:=Zqj ho hli;obtain rfl:b3=true:=Zqx 3 (by simp);obtain rfl:=f3 rfl;have HH:=Zq1 (And.intro c1 (And.intro c2 c3));clear c1 c2 c3;go_simp;exact hK _ _ ⟨_,_,_,_,_,_,_,_,_,_,_,_,_,_,_,_,_,_,_,_,_,_,_,_,_,_,_,rfl,rfl,hB,hG,f0,f1,f3,(fun _=>rfl),f6,f7,m1,m2,m3,x1,x2,x3,HH.out.1,HH.out.2.1,HH.out.2.2,d12,d13,d23,e12,e13,e23⟩
  |5,ho,hli,hd=>
   obtain⟨rfl,rfl⟩:_∧b5=false:=Zqj ho hli;obtain rfl:b4=true:=Zqx 4 (by simp)
   have e13:b13=false:=by
    cases hh:b13 with
    |false=>rfl
    |true=>have:=(c2 hh).2;cases this
   subst e13;obtain rfl:=f4 rfl;have hb:=bel_alloc w' (.cells (intC (List.replicate gl 0)) 3);have hS:w3.heap.size≤w'.heap.size:=hB.size;have HH:=Zq1 (And.intro c1 (And.intro c2 c3));clear c1 c2 c3;go_simp;exact hK _ _ ⟨_,_,_,_,_,_,_,_,_,_,_,_,_,_,_,_,_,_,_,_,_,_,_,_,_,_,_,rfl,rfl,(bel_trans hB hb),(hG.bel hb),f0,f1,f3,f4,f6,f7,(fun e=>(m1 e).bel hb),(fun _=>ArrAt.new hS),(fun e=>(m3 e).bel hb),(fun e=>(x1 e).bel hb),(fun e=>(x2 e).bel hb),(fun e=>(x3 e).bel hb),HH.out.1,(fun e=>by cases e),HH.out.2.2,(fun e _=>(m1 e).ne (Nat.le_refl _)),d13,(fun _ e q=>(m3 e).ne (Nat.le_refl _) q.symm),e12,e13,e23⟩
  |6,ho,hli,hd=>obtain⟨rfl,rfl⟩:_∧b6=false:=Zqj ho hli;have hm:w'.cell? ⟨w.heap.size,0,none⟩=some (.slice gA gl gc):=hG.cell 0;have HH:=Zq1 (And.intro c1 (And.intro c2 c3));clear c1 c2 c3;go_simp;exact hK _ _ ⟨_,_,_,_,_,_,_,_,_,_,_,_,_,_,_,_,_,_,_,_,_,_,_,_,_,_,_,rfl,rfl,hB,hG,f0,f1,f3,f4,(fun _=>rfl),f7,m1,m2,m3,x1,x2,x3,HH.out.1,HH.out.2.1,HH.out.2.2,d12,d13,d23,e12,e13,e23⟩
  |7,ho,hli,hd=>obtain⟨rfl,rfl⟩:_∧b7=false:=Zqj ho hli;obtain rfl:b6=true:=Zqx 6 (by simp);obtain rfl:=f6 rfl;have HH:=Zq1 (And.intro c1 (And.intro c2 c3));clear c1 c2 c3;go_simp;exact hK _ _ ⟨_,_,_,_,_,_,_,_,_,_,_,_,_,_,_,_,_,_,_,_,_,_,_,_,_,_,_,rfl,rfl,hB,hG,f0,f1,f3,f4,f6,(fun _=>rfl),m1,m2,m3,x1,x2,x3,HH.out.1,HH.out.2.1,HH.out.2.2,d12,d13,d23,e12,e13,e23⟩
  |8,ho,hli,hd=>
   obtain⟨rfl,rfl⟩:_∧b8=false:=Zqj ho hli;obtain rfl:b7=true:=Zqx 7 (by simp)
   have e14:b14=false:=by
    cases hh:b14 with
    |false=>rfl
    |true=>have:=(c3 hh).2;cases this
   subst e14;obtain rfl:=f7 rfl;have hb:=bel_alloc w' (.cells (intC (List.replicate gl 0)) 3);have hS:w3.heap.size≤w'.heap.size:=hB.size;have HH:=Zq1 (And.intro c1 (And.intro c2 c3));clear c1 c2 c3;go_simp;exact hK _ _ ⟨_,_,_,_,_,_,_,_,_,_,_,_,_,_,_,_,_,_,_,_,_,_,_,_,_,_,_,rfl,rfl,(bel_trans hB hb),(hG.bel hb),f0,f1,f3,f4,f6,f7,(fun e=>(m1 e).bel hb),(fun e=>(m2 e).bel hb),(fun _=>ArrAt.new hS),(fun e=>(x1 e).bel hb),(fun e=>(x2 e).bel hb),(fun e=>(x3 e).bel hb),HH.out.1,HH.out.2.1,(fun e=>by cases e),d12,(fun e _=>(m1 e).ne (Nat.le_refl _)),(fun e _=>(m2 e).ne (Nat.le_refl _)),e12,e13,e23⟩
  |9,ho,hli,hd=>
   obtain⟨rfl,rfl⟩:_∧b9=false:=Zqj ho hli
   have e12:b12=false:=by
    cases hh:b12 with
    |false=>rfl
    |true=>have:=(c1 hh).1;cases this
   subst e12;have hb:=bel_alloc w' (.cells #[.slice none 0 0] 23);have hS:w3.heap.size≤w'.heap.size:=hB.size;have HH:=Zq1 (And.intro c1 (And.intro c2 c3));clear c1 c2 c3;go_simp;exact hK _ _ ⟨_,_,_,_,_,_,_,_,_,_,_,_,_,_,_,_,_,_,_,_,_,_,_,_,_,_,_,rfl,rfl,(bel_trans hB hb),(hG.bel hb),f0,f1,f3,f4,f6,f7,(fun e=>(m1 e).bel hb),(fun e=>(m2 e).bel hb),(fun e=>(m3 e).bel hb),(fun _=>BoxAt.new hS),(fun e=>(x2 e).bel hb),(fun e=>(x3 e).bel hb),(fun e=>by cases e),HH.out.2.1,HH.out.2.2,d12,d13,d23,(fun _ e q=>(x2 e).ne (Nat.le_refl _) q.symm),(fun _ e q=>(x3 e).ne (Nat.le_refl _) q.symm),e23⟩
  |10,ho,hli,hd=>
   obtain⟨rfl,rfl⟩:_∧b10=false:=Zqj ho hli
   have e13:b13=false:=by
    cases hh:b13 with
    |false=>rfl
    |true=>have:=(c2 hh).1;cases this
   subst e13;have hb:=bel_alloc w' (.cells #[.slice none 0 0] 23);have hS:w3.heap.size≤w'.heap.size:=hB.size;have HH:=Zq1 (And.intro c1 (And.intro c2 c3));clear c1 c2 c3;go_simp;exact hK _ _ ⟨_,_,_,_,_,_,_,_,_,_,_,_,_,_,_,_,_,_,_,_,_,_,_,_,_,_,_,rfl,rfl,(bel_trans hB hb),(hG.bel hb),f0,f1,f3,f4,f6,f7,(fun e=>(m1 e).bel hb),(fun e=>(m2 e).bel hb),(fun e=>(m3 e).bel hb),(fun e=>(x1 e).bel hb),(fun _=>BoxAt.new hS),(fun e=>(x3 e).bel hb),HH.out.1,(fun e=>by cases e),HH.out.2.2,d12,d13,d23,(fun e _=>(x1 e).ne (Nat.le_refl _)),e13,(fun _ e q=>(x3 e).ne (Nat.le_refl _) q.symm)⟩
  |11,ho,hli,hd=>
   obtain⟨rfl,rfl⟩:_∧b11=false:=Zqj ho hli
   have e14:b14=false:=by
    cases hh:b14 with
    |false=>rfl
    |true=>have:=(c3 hh).1;cases this
   subst e14;have hb:=bel_alloc w' (.cells #[.slice none 0 0] 23);have hS:w3.heap.size≤w'.heap.size:=hB.size;have HH:=Zq1 (And.intro c1 (And.intro c2 c3));clear c1 c2 c3;go_simp;exact hK _ _ ⟨_,_,_,_,_,_,_,_,_,_,_,_,_,_,_,_,_,_,_,_,_,_,_,_,_,_,_,rfl,rfl,(bel_trans hB hb),(hG.bel hb),f0,f1,f3,f4,f6,f7,(fun e=>(m1 e).bel hb),(fun e=>(m2 e).bel hb),(fun e=>(m3 e).bel hb),(fun e=>(x1 e).bel hb),(fun e=>(x2 e).bel hb),(fun _=>BoxAt.new hS),HH.out.1,HH.out.2.1,(fun e=>by cases e),d12,d13,d23,e12,(fun e _=>(x1 e).ne (Nat.le_refl _)),(fun e _=>(x2 e).ne (Nat.le_refl _))⟩
  |12,ho,hli,hd=>
   obtain⟨rfl,rfl⟩:_∧b12=false:=Zqj ho hli;obtain rfl:b9=true:=Zqx 9 (by simp);obtain rfl:b2=true:=Zqx 2 (by simp)
   obtain⟨q,rfl,hq1,hq2⟩:=x1 rfl
   obtain⟨p,rfl,hp1,hp2⟩:=m1 rfl
   have hm:w'.cell? ⟨q,0,none⟩=some (.slice none 0 0):=hq2.cell 0;have hz:=hq2.frozen 0;have hq3:=hq2.set_ 0 (.slice (some ⟨p,0,none⟩) gl gl)
   have hBs:=Kept.below hB ((Kept.refl [q] w').set (p:=⟨q,0,none⟩) (.inl (by simp)) (.slice (some ⟨p,0,none⟩) gl gl)) hB.size (fun k hk=>by
    have e:k=q:=(by simpa using hk);omega)
   have hGs:Blk (w'.setCell ⟨q,0,none⟩ (.slice (some ⟨p,0,none⟩) gl gl)) w.heap.size 91 #[.slice gA gl gc]:=hG.far (by show w.heap.size≠q;omega) _;have HH:=Zq1 (And.intro c1 (And.intro c2 c3));clear c1 c2 c3;go_simp;exact hK _ _ ⟨_,_,_,_,_,_,_,_,_,_,_,_,_,_,_,_,_,_,_,_,_,_,_,_,_,_,_,rfl,rfl,hBs,hGs,f0,f1,f3,f4,f6,f7,(fun _=>(show ArrAt w3 gl w' _ from⟨p,rfl,hp1,hp2⟩).set hq2 _),(fun e=>(m2 e).set hq2 _),(fun e=>(m3 e).set hq2 _),(fun _=>⟨q,rfl,hq1,hq3⟩),(fun e=>(x2 e).set (e12 rfl e) _),(fun e=>(x3 e).set (e13 rfl e) _),(fun _=>⟨rfl,rfl⟩),HH.out.2.1,HH.out.2.2,d12,d13,d23,e12,e13,e23⟩
  |13,ho,hli,hd=>
   obtain⟨rfl,rfl⟩:_∧b13=false:=Zqj ho hli;obtain rfl:b10=true:=Zqx 10 (by simp);obtain rfl:b5=true:=Zqx 5 (by simp)
   obtain⟨q,rfl,hq1,hq2⟩:=x2 rfl
   obtain⟨p,rfl,hp1,hp2⟩:=m2 rfl
   have hm:w'.cell? ⟨q,0,none⟩=some (.slice none 0 0):=hq2.cell 0;have hz:=hq2.frozen 0;have hq3:=hq2.set_ 0 (.slice (some ⟨p,0,none⟩) gl gl)
   have hBs:=Kept.below hB ((Kept.refl [q] w').set (p:=⟨q,0,none⟩) (.inl (by simp)) (.slice (some ⟨p,0,none⟩) gl gl)) hB.size (fun k hk=>by
    have e:k=q:=(by simpa using hk);omega)
   have hGs:Blk (w'.setCell ⟨q,0,none⟩ (.slice (some ⟨p,0,none⟩) gl gl)) w.heap.size 91 #[.slice gA gl gc]:=hG.far (by show w.heap.size≠q;omega) _;have HH:=Zq1 (And.intro c1 (And.intro c2 c3));clear c1 c2 c3;go_simp;exact hK _ _ ⟨_,_,_,_,_,_,_,_,_,_,_,_,_,_,_,_,_,_,_,_,_,_,_,_,_,_,_,rfl,rfl,hBs,hGs,f0,f1,f3,f4,f6,f7,(fun e=>(m1 e).set hq2 _),(fun _=>(show ArrAt w3 gl w' _ from⟨p,rfl,hp1,hp2⟩).set hq2 _),(fun e=>(m3 e).set hq2 _),(fun e=>(x1 e).set (fun q=>e12 e rfl q.symm) _),(fun _=>⟨q,rfl,hq1,hq3⟩),(fun e=>(x3 e).set (e23 rfl e) _),HH.out.1,(fun _=>⟨rfl,rfl⟩),HH.out.2.2,d12,d13,d23,e12,e13,e23⟩
  |14,ho,hli,hd=>
   obtain⟨rfl,rfl⟩:_∧b14=false:=Zqj ho hli;obtain rfl:b11=true:=Zqx 11 (by simp);obtain rfl:b8=true:=Zqx 8 (by simp)
   obtain⟨q,rfl,hq1,hq2⟩:=x3 rfl
   obtain⟨p,rfl,hp1,hp2⟩:=m3 rfl
   have hm:w'.cell? ⟨q,0,none⟩=some (.slice none 0 0):=hq2.cell 0;have hz:=hq2.frozen 0;have hq3:=hq2.set_ 0 (.slice (some ⟨p,0,none⟩) gl gl)
   have hBs:=Kept.below hB ((Kept.refl [q] w').set (p:=⟨q,0,none⟩) (.inl (by simp)) (.slice (some ⟨p,0,none⟩) gl gl)) hB.size (fun k hk=>by
    have e:k=q:=(by simpa using hk);omega)
   have hGs:Blk (w'.setCell ⟨q,0,none⟩ (.slice (some ⟨p,0,none⟩) gl gl)) w.heap.size 91 #[.slice gA gl gc]:=hG.far (by show w.heap.size≠q;omega) _;have HH:=Zq1 (And.intro c1 (And.intro c2 c3));clear c1 c2 c3;go_simp;exact hK _ _ ⟨_,_,_,_,_,_,_,_,_,_,_,_,_,_,_,_,_,_,_,_,_,_,_,_,_,_,_,rfl,rfl,hBs,hGs,f0,f1,f3,f4,f6,f7,(fun e=>(m1 e).set hq2 _),(fun e=>(m2 e).set hq2 _),(fun _=>(show ArrAt w3 gl w' _ from⟨p,rfl,hp1,hp2⟩).set hq2 _),(fun e=>(x1 e).set (fun q=>e13 e rfl q.symm) _),(fun e=>(x2 e).set (fun q=>e23 e rfl q.symm) _),(fun _=>⟨q,rfl,hq1,hq3⟩),HH.out.1,HH.out.2.1,(fun _=>⟨rfl,rfl⟩),d12,d13,d23,e12,e13,e23⟩
  |i+15,ho,hli,hd=>simp at ho
 rintro listed a' w' ⟨b0,b1,b2,b3,b4,b5,b6,b7,b8,b9,b10,b11,b12,b13,b14,u5,u6,u7,u11,u12,u13,u14,u15,u16,u17,u18,u19,rfl,rfl,hB,hG,f0,f1,f3,f4,f6,f7,m1,m2,m3,x1,x2,x3,c1,c2,c3,d12,d13,d23,e12,e13,e23⟩ hr;obtain rfl:b0=true:=Zqn hr 0 rfl;obtain rfl:b1=true:=Zqn hr 1 rfl;obtain rfl:b2=true:=Zqn hr 2 rfl;obtain rfl:b3=true:=Zqn hr 3 rfl;obtain rfl:b4=true:=Zqn hr 4 rfl;obtain rfl:b5=true:=Zqn hr 5 rfl;obtain rfl:b6=true:=Zqn hr 6 rfl;obtain rfl:b7=true:=Zqn hr 7 rfl;obtain rfl:b8=true:=Zqn hr 8 rfl;obtain rfl:b9=true:=Zqn hr 9 rfl;obtain rfl:b10=true:=Zqn hr 10 rfl;obtain rfl:b11=true:=Zqn hr 11 rfl;obtain rfl:b12=true:=Zqn hr 12 rfl;obtain rfl:b13=true:=Zqn hr 13 rfl;obtain rfl:b14=true:=Zqn hr 14 rfl;clear hr
 obtain⟨ui,rfl,hui,hbi⟩:=m1 rfl
 obtain⟨ul,rfl,hul,hbl⟩:=m2 rfl
 obtain⟨uo,rfl,huo,hbo⟩:=m3 rfl
 obtain⟨a1,rfl,ha1,hx1⟩:=x1 rfl
 obtain⟨a3,rfl,ha3,hx2⟩:=x2 rfl
 obtain⟨a4,rfl,ha4,hx3⟩:=x3 rfl
 have hx1:Blk w' a1 23 #[.slice (some ⟨ui,0,none⟩) gl gl]:=hx1;have hx2:Blk w' a3 23 #[.slice (some ⟨ul,0,none⟩) gl gl]:=hx2;have hx3:Blk w' a4 23 #[.slice (some ⟨uo,0,none⟩) gl gl]:=hx3;have n1:¬ui=ul:=fun e=>d12 rfl rfl (by rw[e]);have n2:¬ui=uo:=fun e=>d13 rfl rfl (by rw[e]);have n3:¬ul=uo:=fun e=>d23 rfl rfl (by rw[e]);have n4:¬a1=a3:=fun e=>e12 rfl rfl (by rw[e]);have n5:¬a1=a4:=fun e=>e13 rfl rfl (by rw[e]);have n6:¬a3=a4:=fun e=>e23 rfl rfl (by rw[e])
 have ty:∀{a u:Nat} {cs cs':Array Value},Blk w' a 23 cs→Blk w' u 3 cs'→¬a=u:=fun h h' e=>by
  subst e
  have:=h.symm.trans h'
  simp at this
 have t1:=ty hx1 hbi;have t2:=ty hx1 hbl;have t3:=ty hx1 hbo;have t4:=ty hx2 hbi;have t5:=ty hx2 hbl;have t6:=ty hx2 hbo;have t7:=ty hx3 hbi;have t8:=ty hx3 hbl;have t9:=ty hx3 hbo;have l1:=hx1.lt;have l2:=hx2.lt;have l3:=hx3.lt;have l4:=hbi.lt;have l5:=hbl.lt;have l6:=hbo.lt;clear d12 d13 d23 e12 e13 e23 f0 f1 f3 f4 f6 f7 c1 c2 c3 x1 x2 x3 m1 m2 m3 ty;have hbw:Below w.heap.size w w':=bel_trans HB3.out hB;have ha2:=bel_alloc w' (.cells #[.int .i64 0] 3);have hz':=hB.size
 have hTW:TW w gl a1 w'.heap.size a3 a4 (w.heap.size+1+1) w.heap.size (w.heap.size+1) ui ul uo (w'.heap.size+1) gA gc [] (w'.alloc (.cells #[.int .i64 0] 3)) (tInit gl) (.slice none 0 0) (.slice none 0 0):=by
  refine⟨hx1.alloc _,blk_new rfl _ _,hx2.alloc _,hx3.alloc _,(HKS.out.bel hB).alloc _,(HKG.out.bel hB).alloc _,(HKO.out.bel hB).alloc _,hbi.alloc _,hbl.alloc _,hbo.alloc _,OwnI.nil _ _,⟨[],SetRow.nil _ _ _⟩,fun k hk=>?_,?_,bel_trans hbw ha2,by simp⟩
  ·simp only[List.mem_cons,List.not_mem_nil,or_false]at hk;clear n1 n2 n3 n4 n5 n6 t1 t2 t3 t4 t5 t6 t7 t8 t9;rcases hk with rfl | rfl | rfl | rfl | rfl | rfl | rfl | rfl | rfl | rfl <;> omega
  ·simp only[List.nodup_cons,List.mem_cons,not_or,List.not_mem_nil,not_false_eq_true,List.nodup_nil,and_true]
   refine⟨⟨?_,?_,?_,?_,?_,?_,?_,?_,?_⟩,⟨?_,?_,?_,?_,?_,?_,?_,?_⟩,⟨?_,?_,?_,?_,?_,?_,?_⟩,⟨?_,?_,?_,?_,?_,?_⟩,⟨?_,?_,?_,?_,?_⟩,⟨?_,?_,?_,?_⟩,⟨?_,?_,?_⟩,⟨?_,?_⟩,?_⟩ <;> first | assumption | omega
 obtain⟨B,hBe⟩:∃B,B=w'.heap.size+1:=⟨_,rfl⟩
 rw[← hBe]at hTW
 obtain⟨a2,ha2e⟩:∃a2,a2=w'.heap.size:=⟨_,rfl⟩
 rw[← ha2e]at hTW;clear n1 n2 n3 n4 n5 n6 t1 t2 t3 t4 t5 t6 t7 t8 t9 l1 l2 l3 l4 l5 l6 hui hul huo ha1 ha3 ha4 hz3 hmk;clear hG hbi hbl hbo
 obtain⟨HB,HX1,HX2,HX3,HBW,HA2,HTW,HBE,HA2E⟩:=Zq9 hB hx1 hx2 hx3 hbw ha2 hTW hBe ha2e;clear hB hx1 hx2 hx3 hbw ha2 hTW hBe ha2e
 go_wp2_with fail;rw[← HA2E.out];generalize w'.alloc (.cells #[.int .i64 0] 3)=w5 at *;go_loopw [10] (fun t wr=>∃(k:Nat) (sv ov:Value),k+1≤gl∧t=.int .i64 ((k:Int)+1)∧TW w gl a1 a2 a3 a4 (w.heap.size+1+1) w.heap.size (w.heap.size+1) ui ul uo B gA gc [] wr (tRun g k) sv ov) (fun t _=>gl+1-(intOf t).toNat)
 case atStart=>exact⟨0,_,_,h1,rfl,by rw[show tRun g 0=tInit gl from by rw[HLEN.out];rfl];exact HTW.out⟩
 case round=>
  obtain⟨k,sv,ov,hk,rfl,hw⟩:=hrel
  obtain⟨wo,rfl⟩:∃wo:World,wo=wr:=⟨_,rfl⟩
  have d0:wo.cell? ⟨w.heap.size,0,none⟩=some (.slice gA gl gc):=hw.b6.cell 0
  by_cases hlt:k+1<gl
  ·have hrr:=(run_root HG.out k (by have:=HLEN.out;omega)).1;have eli:=hrr.ok.li;rw[← HLEN.out]at eli
   obtain⟨z,hz⟩:∃z,z=nthZ (tRun g k).idx ((k:Int)+1):=⟨_,rfl⟩
   have ek:((k+1:Nat):Int)=(k:Int)+1:=(by omega);have d1:wo.cell? ⟨a1,0,none⟩=some (.slice (some ⟨ui,0,none⟩) gl gl):=hw.b1.cell 0;have d2:wo.cell? ⟨ui,k+1,none⟩=some (.int .i64 z):=(by rw[hw.ix.cell,intC_at eli hlt,ek,hz]);have k0:(0:Int)≤(k:Int)+1:=(by omega);have k1:(k:Int)+1<(gl:Int):=(by omega)
   by_cases hz0:z=0
   ·subst hz0;have hct:=search_any w gl a1 a2 a3 a4 (w.heap.size+1+1) w.heap.size (w.heap.size+1) ui ul uo B gA gc g (tRun g k) sv ov (k+1) wo HG.out HLEN.out.symm HS.out hw hrr (by omega) hlt (by rw[ek];exact hz.symm);rw[ek]at hct
    obtain⟨HW,HRR,ELI,HZ,EK,HCT⟩:=Zq6 hw hrr eli hz ek hct;clear hw hrr eli hz ek hct
    go_wp2_with fail;go_fit HCT.out;rintro e w6 ⟨rfl,sv',ov',hw'⟩;rw[← tRun_succ]at hw';have HW':=Zq1 hw';clear hw';go_wp2_with fail;go_roundw;exact⟨k+1,_,_,by omega,by go_num,HW'.out⟩;simp[intOf];omega
   ·have z1:(z==0)=false:=(by simpa using hz0)
    have hs2:tRun g (k+1)=tRun g k:=by
     rw[tRun_succ];unfold tSearch;rw[if_neg (by rw[← hz];exact hz0)]
    obtain⟨HRR,ELI,HZ,EK,HS2⟩:=Zq5 hrr eli hz ek hs2;clear hrr eli hz ek hs2
    rw[← HS2.out]at hw;have HW:=Zq1 hw;clear hw;go_wp2_with fail;go_roundw;exact⟨k+1,_,_,by omega,by go_num,HW.out⟩;simp[intOf];omega
  ·have ek:k=g.length-1:=by have:=HLEN.out;omega
   obtain⟨cs,hrow⟩:=hw.ou
   have hle:=out_le (run_root HG.out k (by have:=HLEN.out;omega)).1.co
   obtain⟨A,c,rfl,hsl⟩:=hrow.slF (n:=w.heap.size) (fun k hk=>tM_mem.2 (.inl (List.mem_append.2 (.inr (List.mem_range.2 hk))))) (by have:=HLEN.out;omega)
   have d3:wo.cell? ⟨w.heap.size+1,0,none⟩=some (.slice A (tRun g k).out.length c):=hw.b7.cell 0;have hres:compT g=(tRun g k).out:=(by rw[ek];rfl);have hbel:=hw.bel;generalize (tRun g k).out.length=ll at *
   obtain⟨HW,EK,HROW,HLE,HSL,HRES,HBEL⟩:=Zq7 hw ek hrow hle hsl hres hbel;clear hw ek hrow hle hsl hres hbel
   go_wp2_with fail;go_ret
   exact⟨_,_,_,rfl,by rw[HRES.out];exact HSL.out,HBEL.out⟩
theorem components_any (gA:OA)(gl gc:Nat)(g:List (LI))(w:World)(hg:GOk g)(h1:1≤gl)(hs:SlIs (slR intR) w gA gl gc g):
  Calls Tryz.prog 64 #[.slice gA gl gc] w fun e w'=>∃A l c,e=.returned (.slice A l c)∧SlIs (slR intR) w' A l c (compT g)∧Below w.heap.size w w':=
 (components_fr gA gl gc g w hg h1 hs).mono fun _ _ ⟨A,l,c,e,h,hb⟩=>⟨A,l,c,e,h.unfr,hb⟩

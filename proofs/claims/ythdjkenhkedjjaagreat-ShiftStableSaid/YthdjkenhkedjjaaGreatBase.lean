/- Base -/
import Derived.WalkKit
import Derived.WalkSpells
import Derived.WalkLawsBesides
import Derived.Lib.Hide
import Derived.Deep.AppendLies
import Derived.Maps.AppendAt
import Derived.Deep.DeepFit
namespace Go.Proofs.YthdjkenhkedjjaaGreat
open Go.RowKit
theorem Zq1 {p : Prop} (x : p) : Hid p := Lib.hid x
abbrev OA := Option Addr
abbrev LI := List Int
abbrev LN := List Nat
theorem Zqj {α : Type} {x y : α} {b c : Bool} (h : some x = some y) (g : b = c) : x = y ∧ b = c := ⟨Option.some.inj h, g⟩
theorem Zq2 {a0 a1:Prop}(x0:a0)(x1:a1):Hid a0∧Hid a1:=⟨Zq1 x0,Zq1 x1⟩
theorem Zq3 {a0 a1 a2:Prop}(x0:a0)(x1:a1)(x2:a2):Hid a0∧Hid a1∧Hid a2:=⟨Zq1 x0,Zq1 x1,Zq1 x2⟩
theorem Zq4 {a0 a1 a2 a3:Prop}(x0:a0)(x1:a1)(x2:a2)(x3:a3):Hid a0∧Hid a1∧Hid a2∧Hid a3:=⟨Zq1 x0,Zq1 x1,Zq1 x2,Zq1 x3⟩
theorem Zq5 {a0 a1 a2 a3 a4:Prop}(x0:a0)(x1:a1)(x2:a2)(x3:a3)(x4:a4):Hid a0∧Hid a1∧Hid a2∧Hid a3∧Hid a4:=⟨Zq1 x0,Zq1 x1,Zq1 x2,Zq1 x3,Zq1 x4⟩
theorem Zq6 {a0 a1 a2 a3 a4 a5:Prop}(x0:a0)(x1:a1)(x2:a2)(x3:a3)(x4:a4)(x5:a5):Hid a0∧Hid a1∧Hid a2∧Hid a3∧Hid a4∧Hid a5:=⟨Zq1 x0,Zq1 x1,Zq1 x2,Zq1 x3,Zq1 x4,Zq1 x5⟩
theorem Zq7 {a0 a1 a2 a3 a4 a5 a6:Prop}(x0:a0)(x1:a1)(x2:a2)(x3:a3)(x4:a4)(x5:a5)(x6:a6):Hid a0∧Hid a1∧Hid a2∧Hid a3∧Hid a4∧Hid a5∧Hid a6:=⟨Zq1 x0,Zq1 x1,Zq1 x2,Zq1 x3,Zq1 x4,Zq1 x5,Zq1 x6⟩
theorem Zq8 {a0 a1 a2 a3 a4 a5 a6 a7:Prop}(x0:a0)(x1:a1)(x2:a2)(x3:a3)(x4:a4)(x5:a5)(x6:a6)(x7:a7):Hid a0∧Hid a1∧Hid a2∧Hid a3∧Hid a4∧Hid a5∧Hid a6∧Hid a7:=⟨Zq1 x0,Zq1 x1,Zq1 x2,Zq1 x3,Zq1 x4,Zq1 x5,Zq1 x6,Zq1 x7⟩
theorem Zq9 {a0 a1 a2 a3 a4 a5 a6 a7 a8:Prop}(x0:a0)(x1:a1)(x2:a2)(x3:a3)(x4:a4)(x5:a5)(x6:a6)(x7:a7)(x8:a8):Hid a0∧Hid a1∧Hid a2∧Hid a3∧Hid a4∧Hid a5∧Hid a6∧Hid a7∧Hid a8:=⟨Zq1 x0,Zq1 x1,Zq1 x2,Zq1 x3,Zq1 x4,Zq1 x5,Zq1 x6,Zq1 x7,Zq1 x8⟩
theorem Zq10 {a0 a1 a2 a3 a4 a5 a6 a7 a8 a9:Prop}(x0:a0)(x1:a1)(x2:a2)(x3:a3)(x4:a4)(x5:a5)(x6:a6)(x7:a7)(x8:a8)(x9:a9):Hid a0∧Hid a1∧Hid a2∧Hid a3∧Hid a4∧Hid a5∧Hid a6∧Hid a7∧Hid a8∧Hid a9:=⟨Zq1 x0,Zq1 x1,Zq1 x2,Zq1 x3,Zq1 x4,Zq1 x5,Zq1 x6,Zq1 x7,Zq1 x8,Zq1 x9⟩
theorem Zq11 {a0 a1 a2 a3 a4 a5 a6 a7 a8 a9 a10:Prop}(x0:a0)(x1:a1)(x2:a2)(x3:a3)(x4:a4)(x5:a5)(x6:a6)(x7:a7)(x8:a8)(x9:a9)(x10:a10):Hid a0∧Hid a1∧Hid a2∧Hid a3∧Hid a4∧Hid a5∧Hid a6∧Hid a7∧Hid a8∧Hid a9∧Hid a10:=⟨Zq1 x0,Zq1 x1,Zq1 x2,Zq1 x3,Zq1 x4,Zq1 x5,Zq1 x6,Zq1 x7,Zq1 x8,Zq1 x9,Zq1 x10⟩
theorem Zq12 {a0 a1 a2 a3 a4 a5 a6 a7 a8 a9 a10 a11:Prop}(x0:a0)(x1:a1)(x2:a2)(x3:a3)(x4:a4)(x5:a5)(x6:a6)(x7:a7)(x8:a8)(x9:a9)(x10:a10)(x11:a11):Hid a0∧Hid a1∧Hid a2∧Hid a3∧Hid a4∧Hid a5∧Hid a6∧Hid a7∧Hid a8∧Hid a9∧Hid a10∧Hid a11:=⟨Zq1 x0,Zq1 x1,Zq1 x2,Zq1 x3,Zq1 x4,Zq1 x5,Zq1 x6,Zq1 x7,Zq1 x8,Zq1 x9,Zq1 x10,Zq1 x11⟩
structure Rep (α:Type) where
 size:Nat
 pos:0<size
 is:World→List Value→α→Prop
 len:∀{w cs x},is w cs x→cs.length=size
 ext:∀{w w':World} {cs x},is w cs x→Below w.heap.size w w'→is w' cs x
 one:∀{w cs x},is w cs x→∀u∈cs,u.oneCell'=true
theorem bel_trans {a b c:World}(h:Below a.heap.size a b)(k:Below b.heap.size b c):Below a.heap.size a c:=h.trans (k.mono h.size)
def I64 (x:Int):Prop:=-9223372036854775808≤x∧x≤9223372036854775807
def intR:Rep Int where
 size:=1
 pos:=(by decide)
 is:=fun _ cs x=>cs=[.int .i64 x]∧I64 x
 len:=by rintro w cs x ⟨rfl,_⟩;rfl
 ext:=fun h _=>h
 one:=by rintro w cs x ⟨rfl,_⟩ u hu;simp at hu;subst hu;rfl
def strR:Rep ByteArray where
 size:=1
 pos:=(by decide)
 is:=fun _ cs x=>cs=[.string x]∧x.size≤maxLen
 len:=by rintro w cs x ⟨rfl,_⟩;rfl
 ext:=fun h _=>h
 one:=by rintro w cs x ⟨rfl,_⟩ u hu;simp at hu;subst hu;rfl
def SlIs {α:Type}(R:Rep α)(w:World)(A:OA)(l c:Nat)(xs:List α):Prop:=
 l=xs.length∧l≤c∧(c≤maxLen∧l≤17592186044416) ∧
 (0<l→∃ad:Addr,A=some ad∧ad.block<w.heap.size ∧
  ∀i x,xs[i]? = some x→∃cs,R.is w cs x∧∀j u,cs[j]? = some u→w.cell? (ad.add (i*R.size+j))=some u)
theorem SlIs.ext {α:Type}{R:Rep α}{w w':World}{A:OA}{l c:Nat}{xs:List α}(h:SlIs R w A l c xs)(hb:Below w.heap.size w w'):SlIs R w' A l c xs:=by
 refine⟨h.1,h.2.1,h.2.2.1,fun hn=>?_⟩
 obtain⟨ad,e,hl,hc⟩:=h.2.2.2 hn
 refine⟨ad,e,Nat.lt_of_lt_of_le hl hb.size,fun i x hx=>?_⟩
 obtain⟨cs,hr,hcell⟩:=hc i x hx
 refine⟨cs,R.ext hr hb,fun j u hu=>(hb.cell ?_).trans (hcell j u hu)⟩
 have:(ad.add (i*R.size+j)).block=ad.block:=by unfold Addr.add;split <;> rfl
 rw[this];exact hl
def slR {α:Type}(R:Rep α):Rep (List α) where
 size:=1
 pos:=(by decide)
 is:=fun w cs xs=>∃A l c,cs=[.slice A l c]∧SlIs R w A l c xs
 len:=by rintro w cs x ⟨_,_,_,rfl,_⟩;rfl
 ext:=by rintro w w' cs x ⟨A,l,c,rfl,h⟩ hb;exact⟨A,l,c,rfl,h.ext hb⟩
 one:=by rintro w cs x ⟨_,_,_,rfl,_⟩ u hu;simp at hu;subst hu;rfl
theorem SlIs.nil {α:Type}(R:Rep α)(w:World):SlIs R w none 0 0 []:=⟨rfl,Nat.zero_le _,⟨Nat.zero_le _,by omega⟩,fun h=>absurd h (by simp)⟩
theorem SlIs.len {α:Type}{R:Rep α}{w:World}{A:OA}{l c:Nat}{xs:List α}(h:SlIs R w A l c xs):l=xs.length:=h.1
theorem SlIs.cap {α:Type}{R:Rep α}{w:World}{A:OA}{l c:Nat}{xs:List α}(h:SlIs R w A l c xs):l≤c:=h.2.1
theorem SlIs.max {α:Type}{R:Rep α}{w:World}{A:OA}{l c:Nat}{xs:List α}(h:SlIs R w A l c xs):c≤9223372036854775807:=h.2.2.1.1
theorem SlIs.small {α:Type}{R:Rep α}{w:World}{A:OA}{l c:Nat}{xs:List α}(h:SlIs R w A l c xs):l≤17592186044416:=h.2.2.1.2
theorem SlIs.drop {α:Type}{R:Rep α}{w:World}{A:OA}{l c:Nat}{xs:List α}(h:SlIs R w A l c xs){k:Nat}(hk:k<l):∃x,xs[k]? = some x∧xs.drop k=x::xs.drop (k+1):=
 have hk:k<xs.length:=h.1 ▸ hk
 ⟨xs[k],List.getElem?_eq_getElem hk,List.drop_eq_getElem_cons hk⟩
theorem SlIs.stop {α:Type}{R:Rep α}{w:World}{A:OA}{l c:Nat}{xs:List α}(h:SlIs R w A l c xs){k:Nat}(hk:l≤k):xs.drop k=[]:=List.drop_eq_nil_of_le (h.1 ▸ hk)
theorem addr_of_cell {w:World}{a:Addr}{v:Value}(h:w.cell? a=some v):∃b off,a=⟨b,off,none⟩:=by
 obtain⟨b,off,s⟩:=a
 cases s with
 |none=>exact⟨b,off,rfl⟩
 |some s=>
  exfalso;unfold World.cell? at h
  split at h <;> simp at h
theorem add_none (b o j:Nat):(⟨b,o,none⟩:Addr).add j=⟨b,o+j,none⟩:=by unfold Addr.add;split <;> simp_all
theorem SlIs.at_ {α:Type}{R:Rep α}{w:World}{A:OA}{l c:Nat}{xs:List α}(h:SlIs R w A l c xs){k:Nat}{x:α}(hx:xs[k]? = some x):
  ∃b off cs,A=some ⟨b,off,none⟩∧b<w.heap.size∧R.is w cs x∧∀j u,cs[j]? = some u→w.cell? ⟨b,off+(k*R.size+j),none⟩=some u:=by
 have hk:k<xs.length:=by
  rcases Nat.lt_or_ge k xs.length with h | h
  ·exact h
  ·rw[List.getElem?_eq_none h]at hx;cases hx
 have hlen:=h.1
 obtain⟨ad,e,hl,hc⟩:=h.2.2.2 (by omega)
 have h0:xs[0]? = some xs[0]:=List.getElem?_eq_getElem (by omega)
 obtain⟨cs0,hr0,hcell0⟩:=hc 0 _ h0
 have hz:0<cs0.length:=by rw[R.len hr0];exact R.pos
 have hc0:=hcell0 0 cs0[0] (List.getElem?_eq_getElem hz);simp only[Nat.zero_mul,Nat.zero_add]at hc0;have hadd:ad.add 0=ad:=rfl;rw[hadd]at hc0
 obtain⟨b,off,rfl⟩:=addr_of_cell hc0
 obtain⟨cs,hr,hcell⟩:=hc k x hx
 refine⟨b,off,cs,e,hl,hr,fun j u hu=>?_⟩
 have:=hcell j u hu
 rwa [add_none]at this
theorem SlIs.int {w:World}{A:OA}{l c:Nat}{xs:List Int}(h:SlIs intR w A l c xs){k:Nat}{x:Int}(hx:xs[k]? = some x):
  ∃b off,A=some ⟨b,off,none⟩∧b<w.heap.size∧w.cell? ⟨b,off+k,none⟩=some (.int .i64 x)∧I64 x:=by
 obtain⟨b,off,cs,e,hl,⟨rfl,hi⟩,hc⟩:=h.at_ hx
 exact⟨b,off,e,hl,by have:=hc 0 _ rfl;simpa[intR]using this,hi⟩
structure GRule where
 choice:Bool
 head:List Int
 sum:Bool
 bound:Int
 body:List Int
 w:List Int
 deriving DecidableEq
abbrev LG := List GRule
structure GMin where
 level:Int
 lits:List Int
 w:List Int
 deriving DecidableEq
structure GProg where
 n:Int
 names:List ByteArray
 shown:List Int
 rules:List GRule
 min:List GMin
 deriving DecidableEq
abbrev Ints (w:World)(v:Value)(xs:List Int):Prop:=(slR intR).is w [v] xs
def ruleR:Rep GRule where
 size:=6
 pos:=(by decide)
 is:=fun w cs r=>∃h b wt,cs=[.bool r.choice,h,.bool r.sum,.int .i64 r.bound,b,wt]∧Ints w h r.head∧I64 r.bound∧Ints w b r.body∧Ints w wt r.w
 len:=by rintro w cs x ⟨_,_,_,rfl,_⟩;rfl
 ext:=by rintro w w' cs x ⟨h,b,wt,rfl,h1,h2,h3,h4⟩ hb;exact⟨h,b,wt,rfl,(slR intR).ext h1 hb,h2,(slR intR).ext h3 hb,(slR intR).ext h4 hb⟩
 one:=by
  rintro w cs x ⟨h,b,wt,rfl,h1,h2,h3,h4⟩ u hu;simp only[List.mem_cons,List.not_mem_nil,or_false]at hu;rcases hu with rfl | rfl | rfl | rfl | rfl | rfl
  ·rfl
  ·exact(slR intR).one h1 _ (by simp)
  ·rfl
  ·rfl
  ·exact(slR intR).one h3 _ (by simp)
  ·exact(slR intR).one h4 _ (by simp)
def minR:Rep GMin where
 size:=3
 pos:=(by decide)
 is:=fun w cs r=>∃b wt,cs=[.int .i64 r.level,b,wt]∧I64 r.level∧Ints w b r.lits∧Ints w wt r.w
 len:=by rintro w cs x ⟨_,_,rfl,_⟩;rfl
 ext:=by rintro w w' cs x ⟨b,wt,rfl,h2,h3,h4⟩ hb;exact⟨b,wt,rfl,h2,(slR intR).ext h3 hb,(slR intR).ext h4 hb⟩
 one:=by
  rintro w cs x ⟨b,wt,rfl,h2,h3,h4⟩ u hu;simp only[List.mem_cons,List.not_mem_nil,or_false]at hu;rcases hu with rfl | rfl | rfl
  ·rfl
  ·exact(slR intR).one h3 _ (by simp)
  ·exact(slR intR).one h4 _ (by simp)
theorem SlIs.rule {w:World}{A:OA}{l c:Nat}{xs:List GRule}(h:SlIs ruleR w A l c xs){k:Nat}{r:GRule}(hx:xs[k]? = some r):
  ∃b off hA hl hc bA bl bc wA wl wc,A=some ⟨b,off,none⟩∧b<w.heap.size ∧
   w.cell? ⟨b,off+k*6,none⟩=some (.bool r.choice)∧w.cell? ⟨b,off+k*6+1,none⟩=some (.slice hA hl hc) ∧
   w.cell? ⟨b,off+k*6+2,none⟩=some (.bool r.sum)∧w.cell? ⟨b,off+k*6+3,none⟩=some (.int .i64 r.bound) ∧
   w.cell? ⟨b,off+k*6+4,none⟩=some (.slice bA bl bc)∧w.cell? ⟨b,off+k*6+5,none⟩=some (.slice wA wl wc) ∧
   SlIs intR w hA hl hc r.head∧I64 r.bound∧SlIs intR w bA bl bc r.body∧SlIs intR w wA wl wc r.w:=by
 obtain⟨b,off,cs,e,hl,⟨hv,bv,wv,rfl,⟨hA,hn,hc,h1,h2⟩,h3,⟨bA,bn,bc,h4,h5⟩,⟨wA,wn,wc,h6,h7⟩⟩,hcell⟩:=h.at_ hx
 simp only[List.cons.injEq,and_true]at h1 h4 h6;subst h1 h4 h6;have g:∀j,off+k*6+j=off+(k*ruleR.size+j):=fun j=>by simp[ruleR];omega
 refine⟨b,off,hA,hn,hc,bA,bn,bc,wA,wn,wc,e,hl,?_,?_,?_,?_,?_,?_,h2,h3,h5,h7⟩
 ·have:=hcell 0 _ rfl;rwa [← g]at this
 ·rw[g];exact hcell 1 _ rfl
 ·rw[g];exact hcell 2 _ rfl
 ·rw[g];exact hcell 3 _ rfl
 ·rw[g];exact hcell 4 _ rfl
 ·rw[g];exact hcell 5 _ rfl
theorem SlIs.min {w:World}{A:OA}{l c:Nat}{xs:List GMin}(h:SlIs minR w A l c xs){k:Nat}{r:GMin}(hx:xs[k]? = some r):
  ∃b off bA bl bc wA wl wc,A=some ⟨b,off,none⟩∧b<w.heap.size ∧
   w.cell? ⟨b,off+k*3,none⟩=some (.int .i64 r.level) ∧
   w.cell? ⟨b,off+k*3+1,none⟩=some (.slice bA bl bc)∧w.cell? ⟨b,off+k*3+2,none⟩=some (.slice wA wl wc) ∧
   I64 r.level∧SlIs intR w bA bl bc r.lits∧SlIs intR w wA wl wc r.w:=by
 obtain⟨b,off,cs,e,hl,⟨bv,wv,rfl,h3,⟨bA,bn,bc,h4,h5⟩,⟨wA,wn,wc,h6,h7⟩⟩,hcell⟩:=h.at_ hx
 simp only[List.cons.injEq,and_true]at h4 h6;subst h4 h6;have g:∀j,off+k*3+j=off+(k*minR.size+j):=fun j=>by simp[minR];omega
 refine⟨b,off,bA,bn,bc,wA,wn,wc,e,hl,?_,?_,?_,h3,h5,h7⟩
 ·have:=hcell 0 _ rfl;rwa [← g]at this
 ·rw[g];exact hcell 1 _ rfl
 ·rw[g];exact hcell 2 _ rfl
theorem SlIs.str {w:World}{A:OA}{l c:Nat}{xs:List ByteArray}(h:SlIs strR w A l c xs){k:Nat}{x:ByteArray}(hx:xs[k]? = some x):
  ∃b off,A=some ⟨b,off,none⟩∧b<w.heap.size∧w.cell? ⟨b,off+k,none⟩=some (.string x)∧x.size≤maxLen:=by
 obtain⟨b,off,cs,e,hl,⟨rfl,hi⟩,hc⟩:=h.at_ hx
 exact⟨b,off,e,hl,by have:=hc 0 _ rfl;simpa[strR]using this,hi⟩
theorem bel_alloc (w:World)(o:Obj):Below w.heap.size w (w.alloc o):=(Below.refl _ _).alloc (Nat.le_refl _) _
theorem bcell {W w1:World}(hb:Below W.heap.size W w1):∀b o,b<W.heap.size→w1.cell? ⟨b,o,none⟩=W.cell? ⟨b,o,none⟩:=fun b o h=>hb.cell (p:=⟨b,o,none⟩) h
theorem bsz {W w1:World}{o:Obj}(hb:Below (W.alloc o).heap.size (W.alloc o) w1):W.heap.size<w1.heap.size:=by
 have:=hb.size;simp at this;omega
structure RuleIn (w:World)(r:GRule)(hA:OA)(hl hc:Nat)(bA:OA)(bl bc:Nat)(wA:OA)(wl wc:Nat):Prop where
 head:SlIs intR w hA hl hc r.head
 bound:I64 r.bound
 body:SlIs intR w bA bl bc r.body
 wt:SlIs intR w wA wl wc r.w
theorem RuleIn.ext {w w':World}{r:GRule}{hA bA wA:OA}{hl hc bl bc wl wc:Nat}(h:RuleIn w r hA hl hc bA bl bc wA wl wc)(hb:Below w.heap.size w w'):RuleIn w' r hA hl hc bA bl bc wA wl wc:=
 ⟨h.head.ext hb,h.bound,h.body.ext hb,h.wt.ext hb⟩
structure ProgIn (w:World)(p:GProg)(nA:OA)(nl nc:Nat)(sA:OA)(sl sc:Nat)(rA:OA)(rl rc:Nat)(mA:OA)(ml mc:Nat):Prop where
 n:I64 p.n
 names:SlIs strR w nA nl nc p.names
 shown:SlIs intR w sA sl sc p.shown
 rules:SlIs ruleR w rA rl rc p.rules
 min:SlIs minR w mA ml mc p.min
theorem ProgIn.ext {w w':World}{p:GProg}{nA sA rA mA:OA}{nl nc sl sc rl rc ml mc:Nat}(h:ProgIn w p nA nl nc sA sl sc rA rl rc mA ml mc)(hb:Below w.heap.size w w'):ProgIn w' p nA nl nc sA sl sc rA rl rc mA ml mc:=
 ⟨h.n,h.names.ext hb,h.shown.ext hb,h.rules.ext hb,h.min.ext hb⟩
theorem ret_bool {a b:Bool}(h:a=b):Ending.returned (.bool a)=.returned (.bool b):=by rw[h]
theorem ret_int {a b:Int}(h:a=b):Ending.returned (.int .i64 a)=.returned (.int .i64 b):=by rw[h]

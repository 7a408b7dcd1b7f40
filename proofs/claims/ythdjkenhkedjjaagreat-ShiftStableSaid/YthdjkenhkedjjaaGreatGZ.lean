/- GZ -/
import Derived.RangeFuncNested
import Derived.RangeFuncBound
import Derived.RangeFuncCalls
import Derived.RangeFuncLeaves
import Derived.Test.YthdjkenhkedjjaaGreatRd8
import Derived.OwnWalkIn
import Derived.TacticsInMore
import Derived.LoopNIn
import Derived.LoopIn
import Derived.Shelf.Abstract
import Derived.Deep.RegionWith
import Derived.Maps.Own
set_option maxRecDepth 100000
set_option maxHeartbeats 4000000
namespace Go.Proofs.YthdjkenhkedjjaaGreat
open Go.RowKit
theorem Kept.of_below {w a:World}(h:Below w.heap.size w a)(S:LN):Kept S w a:=(Kept.refl S w).bel h
theorem kept_putObj (W:World)(l:Nat)(o:Obj):Kept [l] W (W.putObj l o):=
 ⟨rfl,rfl,rfl,by simp[World.putObj],fun k _ hk=>World.putObj_heap_other (by simpa using hk)⟩
def YieldM {α:Type}(F:Fence)(m:Nat)(P:Program)(l:Nat)(J:LN→List α→World→Prop)(Jx:List α→World→Prop)(Good:LN→α→Array Value→World→Prop)(xs:List α):Prop:=
 ∀M pre x args W1,J M pre W1→pre++[x] <+: xs→Good M x args W1→YieldAt F m P l args W1 fun e W'=>
  (e=.returned (.bool true)∧∃M',J M' (pre++[x]) W'∧Kept M W1 W'∧(∀k∈M',k∈M∨W1.heap.size≤k))∨(e=.returned (.bool false)∧Jx (pre++[x]) W')
def IterM {α:Type}(F:Fence)(m:Nat)(P:Program)(gf:Nat)(lb:Array Value)(Good:LN→α→Array Value→World→Prop)(xs:List α)(M0:LN)(w:World):Prop:=
 ∀(l:Nat) (J:LN→List α→World→Prop) (Jx:List α→World→Prop) (M:LN) (W:World),
  (∀M pre A B,J M pre A→Below A.heap.size A B→J M pre B)→(∀pre A B,Jx pre A→Below A.heap.size A B→Jx pre B)→(∀M pre A,J M pre A→∀k∈M,k<A.heap.size) →
  YieldM F (m-1) P l J Jx Good xs→J M [] W→Below w.heap.size w W→(∀k∈M,k∈M0∨w.heap.size≤k) →
  CallsIn F m P gf (#[.func (.yield l) #[] #[]]++lb) W fun e W'=>(∃v,e=.returned v)∧((∃M',J M' xs W')∨(∃pre,pre <+: xs∧Jx pre W'))
def postM {α:Type}(I:LN→List α→World→Prop)(Ix:Code→List α→World→Prop)(M:LN)(xs:List α)(W:World):Exit→Act→World→Prop
 |.normal,_,W'=>∃M',I M' xs W'∧Kept M W W'∧(∀k∈M',k∈M∨W.heap.size≤k)
 |.ret,_,W'=>Ix .ret xs W'∧Kept M W W'
 |.exit id,_,W'=>Ix (.exit id) xs W'∧Kept M W W'
 |.goto t,_,W'=>Ix (.goto t) xs W'∧Kept M W W'
 |.panic _,_,_=>False
 |.outgrown,_,_=>False
open Go.RowKit
theorem clone2_any (lA:OA)(ll lc:Nat)(xs:LI)(w:World)(h:SlIs intR w lA ll lc xs):
  Calls Tryz.prog 52 #[.slice lA ll lc] w fun e w'=>∃A l c,e=.returned (.slice A l c)∧SlIs intR w' A l c xs∧Frs w.heap.size A l∧Below w.heap.size w w':=by
 have hl:=h.cap;have hm:=h.max;have hs:=h.small;have hnil:=fun W=>Lib.run_eql_slice_nil (P:=Tryz.prog) W 23 3 lA ll lc 0 0 Tryz.underlying23
 have hx:∀x∈xs,I64 x:=fun x hx=>by
  obtain⟨k,hk⟩:=List.getElem?_of_mem hx
  exact(h.int hk).choose_spec.choose_spec.2.2.2
 cases hA:lA with
 |none=>
  subst hA
  have h0:ll=0:=by
   rcases Nat.eq_zero_or_pos ll with h0 | h0
   ·exact h0
   ·obtain⟨ad,he,_⟩:=h.2.2.2 h0;cases he
  subst h0;have hxs:xs=[]:=List.eq_nil_of_length_eq_zero h.len.symm;subst hxs;have H:=Zq1 h;clear h;go_enter Tryz.func52,Tryz.ntmps52;go_wp2_with fail;refine bodyPost_ret (results_tmp rfl _ _ _) rfl ?_
  exact⟨none,0,0,rfl,SlIs.nil _ _,Frs.nil _ _,Below.refl _ _⟩
 |some ad=>
  subst hA;have O0:OwnI (w.alloc (.cells #[] 3)) w.heap.size (.slice (some ⟨w.heap.size,0,none⟩) 0 0) 0 []:=⟨rfl,World.ownsRow_made _ #[] 0 (Nat.le_refl _) (by simp[maxLen]) (by simp)⟩
  obtain⟨v1,w3,hrun1,own1,hg1,hat1⟩:=appS O0 (h.ext (bel_alloc _ _)) (by omega) (by simp) 23
  have hb3:Below w.heap.size w w3:=bel_grown (bel_alloc _ _) hg1 (by simp) (fun k hk=>by simp[Value.ownBlock]at hk;omega)
  obtain⟨A',c',hv,hsl⟩:=own1.sl (by omega) (by simpa using hx)
  subst hv;have hfr:=own1.fresh
  obtain⟨HFR,H,O0,OWN1,HG1,HAT1,HB3,HSL,HX,HRUN1⟩:=Zq10 hfr h O0 own1 hg1 hat1 hb3 hsl hx hrun1;clear hfr h O0 own1 hg1 hat1 hb3 hsl hx hrun1
  go_enter Tryz.func52,Tryz.ntmps52;go_wp2_with (at_builtin;refine wpList_append_run rfl _ _ _ rfl _ _ rfl rfl _ _ HRUN1.out ?_);refine bodyPost_ret (results_tmp rfl _ _ _) rfl ?_
  exact⟨A',_,c',rfl,by have h1:=HSL.out;simpa using h1,by simpa using HFR.out,HB3.out⟩
def Off (M:LN)(A:OA)(l:Nat):Prop:=0<l→∀ad,A=some ad→ad.block∉M
theorem Off.nil (M:LN)(A:OA):Off M A 0:=fun h=>absurd h (by simp)
theorem Off.sub {M T:LN}{A:OA}{l:Nat}(h:Off M A l)(hs:∀k∈T,k∈M):Off T A l:=fun h0 ad e hm=>h h0 ad e (hs _ hm)
theorem Frs.off {n:Nat}{M:LN}{A:OA}{l:Nat}(h:Frs n A l)(hM:∀k∈M,k<n):Off M A l:=fun h0 ad e hm=>by have:=h h0 ad e;have:=hM _ hm;omega
theorem SlIs.keptM {M:LN}{w B:World}{A:OA}{l c:Nat}{xs:LI}(h:SlIs intR w A l c xs)(hk:Kept M w B)(ho:Off M A l):SlIs intR B A l c xs:=by
 refine⟨h.1,h.2.1,h.2.2.1,fun hn=>?_⟩
 obtain⟨ad,e,hl,hc⟩:=h.2.2.2 hn
 refine⟨ad,e,Nat.lt_of_lt_of_le hl hk.size,fun i x hx=>?_⟩
 obtain⟨cs,hr,hcell⟩:=hc i x hx
 refine⟨cs,hr,fun j u hu=>hk.cell (hcell j u hu) ?_⟩
 have:(ad.add (i*intR.size+j)).block=ad.block:=by unfold Addr.add;split <;> rfl
 rw[this];exact ho hn ad e
theorem SlIs.blk_lt {α:Type}{R:Rep α}{w:World}{A:OA}{l c:Nat}{xs:List α}(h:SlIs R w A l c xs)(h0:0<l){ad:Addr}(e:A=some ad):ad.block<w.heap.size:=by
 obtain⟨ad',e',hl,_⟩:=h.2.2.2 h0
 rw[e]at e';cases e';exact hl
def GoodR (M:LN)(x:GRule)(args:Array Value)(W:World):Prop:=
 ∃(hA:OA) (hl hc:Nat) (bA:OA) (bl bc:Nat) (wA:OA) (wl wc:Nat),args=#[ruleV x (.slice hA hl hc) (.slice bA bl bc) (.slice wA wl wc)]∧RuleIn W x hA hl hc bA bl bc wA wl wc∧Off M hA hl∧Off M bA bl∧Off M wA wl
theorem GoodR.go {M M1:LN}{x:GRule}{args:Array Value}{A B:World}(h:GoodR M x args A)(hs:∀k∈M1,k∈M)(hk:Kept M A B):GoodR M1 x args B:=by
 obtain⟨hA,hl,hc,bA,bl,bc,wA,wl,wc,e,hr,h1,h2,h3⟩:=h
 exact⟨hA,hl,hc,bA,bl,bc,wA,wl,wc,e,⟨hr.head.keptM hk h1,hr.bound,hr.body.keptM hk h2,hr.wt.keptM hk h3⟩,h1.sub hs,h2.sub hs,h3.sub hs⟩
theorem GoodR.size {M:LN}{x:GRule}{args:Array Value}{W:World}(h:GoodR M x args W):args.size=1:=by
 obtain⟨_,_,_,_,_,_,_,_,_,rfl,_⟩:=h;rfl
def redOne (m:LI)(r:GRule):LG:=
 if dropB r m then[]else if r.choice then(r.head.filter fun a=>decide (a∈m)).map fun a=>{ posRule r m with head:=[a] } else[{ posRule r m with head:=r.head }]
def reductL (rs:LG)(m:LI):LG:=rs.flatMap (redOne m)
theorem reductL_take {rs:LG}{m:LI}{k:Nat}{r:GRule}(h:rs[k]? = some r):reductL (rs.take (k+1)) m=reductL (rs.take k) m++redOne m r:=by
 rw[take_snoc' h];simp[reductL]
open Go.RowKit
variable {F : Fence} {n : Nat} {P : Program}
theorem wpIn_rangeM {α:Type}{g:Operand}{ps:Array Tmp}{assign body:Code}{Q:Exit→Act→World→Prop}{a:Act}{w:World}
  (hro:F.round=none) (h1:1≤n) {gf:Nat} {lb:Array Value} (hg:a.eval g=.func (.func gf) #[] lb) (hFg:F.fn gf) (eg:∀args w,(callFunc gf args).run P w=.ok (.enter gf args) w)
  {Good:LN→α→Array Value→World→Prop} {xs:List α} {M0:LN} (hit:IterM F (n-1) P gf lb Good xs M0 w)
  (hps:∀M x args W,Good M x args W→args.size=ps.size)
  (hG:∀M M1 x args A B,Good M x args A→(∀k∈M1,k∈M)→Kept M A B→Good M1 x args B)
  (I:LN→List α→World→Prop) (Ix:Code→List α→World→Prop)
  (hIb:∀M pre A B,I M pre A→Below A.heap.size A B→I M pre B) (hIxb:∀c pre A B,Ix c pre A→Below A.heap.size A B→Ix c pre B)
  (hI:∀M pre A B k,w.heap.size≤k→I M pre A→(∀o,A.heap[k]? = some o→o.isCells=false)→Kept [k] A B→I M pre B)
  (hIx:∀c pre A B k,w.heap.size≤k→Ix c pre A→(∀o,A.heap[k]? = some o→o.isCells=false)→Kept [k] A B→Ix c pre B)
  (hIM:∀M pre W,I M pre W→∀k∈M,∃o,W.heap[k]? = some o∧o.isCells=true)
  (h0:I M0 [] w) (Ax:α→Array Value→Act→World→Prop)
  (hAx:∀x args a' A B k,Ax x args a' A→(∀o,A.heap[k]? = some o→o.isCells=false)→Kept [k] A B→Ax x args a' B)
  (hassign:∀(l:Nat) (M:LN) (pre:List α) (x:α) (args:Array Value) (W:World) (K:Act→World→Prop),I M pre W→Good M x args W→(∀a' W',Below W.heap.size W W'→Ax x args a' W'→K a' W') →
   assign.wpIn (F.inRound l) (n-1-1) P (Exit.then K (fun _ _ _=>False)) { tmps:=(ps.zip args).foldl (fun t (p,v)=>t.setIfInBounds p v) a.tmps,defers:=[] } W)
  (hbody:∀(l:Nat) (M:LN) (pre:List α) (x:α) (args:Array Value) (a':Act) (W:World),I M pre W→pre++[x] <+: xs→Good M x args W→Ax x args a' W→body.wpIn (F.inRound l) (n-1-1) P (postM I Ix M (pre++[x]) W) a' W)
  (hdone:∀(D:Nat) (M:LN) (W:World),w.heap.size≤D→I M xs W→W.heap[D]? = some (.deferred (some []))→Q .normal { a with defers:={ target:=.collected D,args:=#[] }::a.defers } W)
  (hstop:∀(D:Nat) (c:Code) (pre:List α) (W:World),w.heap.size≤D→pre <+: xs→Ix c pre W→W.heap[D]? = some (.deferred (some []))→c.wpIn F n P Q { a with defers:={ target:=.collected D,args:=#[] }::a.defers } W):
  (Code.rangeFunc g ps assign body).wpIn F n P Q a w:=by
 refine wpIn_rangeFunc ?_;intro fn hfn;rw[hro]
 obtain⟨rec,hrec⟩:∃rec:LoopState→Option Code→Loop,rec=fun st pe=>{ state:=st,pending:=pe,fn,tmps:=a.tmps,params:=ps,assign,body,defers:=w.heap.size }:=⟨_,rfl⟩
 obtain⟨W1,hW1⟩:∃W1,(w.alloc (.deferred (some []))).alloc (.loop (rec .ready none))=W1:=⟨_,rfl⟩
 have hL1:W1.heap[w.heap.size+1]? = some (.loop (rec .ready none)):=by
  rw[← hW1];have:=World.alloc_heap_new (w.alloc (.deferred (some []))) (.loop (rec .ready none));rwa [World.size_alloc]at this
 have hK1:W1.heap[w.heap.size]? = some (.deferred (some [])):=by
  rw[← hW1];exact(Below.heap_alloc _ _ _ (by simp)).trans (World.alloc_heap_new w _)
 have hbw:Below w.heap.size w W1:=by rw[← hW1];exact((Below.refl _ w).alloc (Nat.le_refl _) _).alloc (by simp) _
 have hI1:I M0 [] W1:=hIb _ _ _ _ h0 hbw
 refine⟨w.heap.size+1,[{ target:=.collected w.heap.size,args:=#[] }],W1,{ target:=.fn (.func gf) lb,args:=#[.func (.yield (w.heap.size+1)) #[] #[]] },W1,gf,
  #[.func (.yield (w.heap.size+1)) #[] #[]]++lb,W1,?_,?_,?_,?_,fun _=>h1,?_⟩
 ·rw[← hW1,hrec];exact run_enterLoop_outer _ _ _ _ _
 ·simp only[resolve,hg];simp[go_sem]
 ·intro f' hf';simp[Target.leads]at hf';subst hf';exact hFg
 ·simp[invoke,go_sem,eg]
 ·refine(hit (w.heap.size+1)
   (fun M pre W=>∃M1,M=(w.heap.size+1)::M1∧I M1 pre W∧W.heap[w.heap.size+1]? = some (.loop (rec .ready none))∧W.heap[w.heap.size]? = some (.deferred (some [])))
   (fun pre W=>∃c,Ix c pre W∧W.heap[w.heap.size+1]? = some (.loop (rec .done (some c)))∧W.heap[w.heap.size]? = some (.deferred (some [])))
   ((w.heap.size+1)::M0) W1
   (fun M pre A B hs hb=>by
    obtain⟨M1,rfl,hi,hl,hk⟩:=hs
    exact⟨M1,rfl,hIb _ _ _ _ hi hb,(hb.block _ (Array.getElem?_eq_some_iff.1 hl).1).trans hl,(hb.block _ (Array.getElem?_eq_some_iff.1 hk).1).trans hk⟩)
   (fun pre A B hs hb=>by
    obtain⟨c,hc,hl,hk⟩:=hs
    exact⟨c,hIxb _ _ _ _ hc hb,(hb.block _ (Array.getElem?_eq_some_iff.1 hl).1).trans hl,(hb.block _ (Array.getElem?_eq_some_iff.1 hk).1).trans hk⟩)
   (fun M pre A hs k hk=>by
    obtain⟨M1,rfl,hi,hl,hkk⟩:=hs
    rcases List.mem_cons.1 hk with rfl | hk
    ·exact(Array.getElem?_eq_some_iff.1 hl).1
    ·obtain⟨o,ho,_⟩:=hIM _ _ _ hi k hk
     exact(Array.getElem?_eq_some_iff.1 ho).1)
   ?_ ⟨M0,rfl,hI1,hL1,hK1⟩ hbw (fun k hk=>by
    rcases List.mem_cons.1 hk with rfl | hk
    ·exact .inr (by omega)
    ·exact .inl hk)).mono ?_
  ·rintro M pre x args W ⟨M1,rfl,hi,hl,hk⟩ hpf hgd;have hy:=run_yield (P:=P) (args:=args) hl (by rw[hrec];exact hps _ _ _ _ hgd);rw[hrec]at hy;have hgd1:=hG _ M1 _ _ _ _ hgd (fun k hk=>List.mem_cons_of_mem _ hk) (Kept.refl _ _)
   refine⟨fn,_,assign,body,hy,roundIn_of_wpIn hfn (hassign _ M1 pre x args W _ hi hgd1 ?_)⟩
   clear hy;intro a' Wa hba hax;have hla:=(hba.block _ (Array.getElem?_eq_some_iff.1 hl).1).trans hl;have hka:=(hba.block _ (Array.getElem?_eq_some_iff.1 hk).1).trans hk;have hia:=hIb _ _ _ _ hi hba;have hlt:w.heap.size+1<Wa.heap.size:=(Array.getElem?_eq_some_iff.1 hla).1
   refine⟨_,run_beginRound hla (by rw[hrec]),?_⟩
   obtain⟨Wb,hWb⟩:∃Wb,Wa.putObj (w.heap.size+1) (.loop { rec .ready none with state:=.busy })=Wb:=⟨_,rfl⟩
   have hkb:Kept [w.heap.size+1] Wa Wb:=(by rw[← hWb];exact kept_putObj _ _ _);have hlb:Wb.heap[w.heap.size+1]? = some (.loop { rec .ready none with state:=.busy }):=(by rw[← hWb];exact World.putObj_heap_same hlt);have hdb:Wb.heap[w.heap.size]? = some (.deferred (some [])):=(by rw[← hWb];exact(World.putObj_heap_other (by omega)).trans hka);have hnc:∀o,Wa.heap[w.heap.size+1]? = some o→o.isCells=false:=fun o ho=>by rw[hla]at ho;cases ho;rfl
   have hib:=hI _ _ _ _ _ (by omega) hia hnc hkb;have hgb:=hG _ M1 _ _ _ _ hgd (fun k hk=>List.mem_cons_of_mem _ hk) ((Kept.of_below hba _).trans (hkb.more (T:=(w.heap.size+1)::M1) (fun k hk=>by simp at hk;simp[hk])));rw[hWb];refine wpIn_mono (hbody _ M1 pre x args a' Wb hib hpf hgb (hAx _ _ _ _ _ _ hax hnc hkb)) ?_
   have hlM:w.heap.size+1∉M1:=fun hm=>by
    obtain⟨o,ho,hc⟩:=hIM _ _ _ hi _ hm
    rw[hl]at ho;cases ho;cases hc
   have hdM:w.heap.size∉M1:=fun hm=>by
    obtain⟨o,ho,hc⟩:=hIM _ _ _ hi _ hm
    rw[hk]at ho;cases ho;cases hc
   have fin:∀(jump:Option Code) (W3:World),Kept M1 Wb W3 →
     (Instr.endRound (w.heap.size+1) jump).run P W3=.ok (.bool jump.isNone) (W3.putObj (w.heap.size+1) (.loop (rec (if jump.isNone then .ready else .done) jump))) ∧
     W3.heap[w.heap.size+1]? = some (.loop { rec .ready none with state:=.busy }) ∧
     (W3.putObj (w.heap.size+1) (.loop (rec (if jump.isNone then .ready else .done) jump))).heap[w.heap.size+1]? = some (.loop (rec (if jump.isNone then .ready else .done) jump)) ∧
     (W3.putObj (w.heap.size+1) (.loop (rec (if jump.isNone then .ready else .done) jump))).heap[w.heap.size]? = some (.deferred (some [])):=fun jump W3 hk3=>by
    have hl3:=(hk3.block _ (Array.getElem?_eq_some_iff.1 hlb).1 hlM).trans hlb;have hd3:=(hk3.block _ (Array.getElem?_eq_some_iff.1 hdb).1 hdM).trans hdb
    have:=run_endRound (P:=P) jump hl3
    rw[hrec]at this ⊢
    exact⟨this,by rw[hrec]at hl3;exact hl3,World.putObj_heap_same (Array.getElem?_eq_some_iff.1 hl3).1,(World.putObj_heap_other (by omega)).trans hd3⟩
   have lv:∀(c:Code) (W3:World),Ix c (pre++[x]) W3→Kept M1 Wb W3→∃v w',(Instr.endRound (w.heap.size+1) (some c)).run P W3=.ok v w' ∧
     ((Ending.returned v=.returned (.bool true)∧∃M',(∃M1',M'=(w.heap.size+1)::M1'∧I M1' (pre++[x]) w'∧w'.heap[w.heap.size+1]? = some (.loop (rec .ready none))∧w'.heap[w.heap.size]? = some (.deferred (some [])))∧Kept ((w.heap.size+1)::M1) W w'∧(∀k∈M',k∈(w.heap.size+1)::M1∨W.heap.size≤k)) ∨
      (Ending.returned v=.returned (.bool false)∧∃c,Ix c (pre++[x]) w'∧w'.heap[w.heap.size+1]? = some (.loop (rec .done (some c)))∧w'.heap[w.heap.size]? = some (.deferred (some [])))):=fun c W3 hx hk3=>by
    obtain⟨hr,hl3,hl4,hk4⟩:=fin (some c) W3 hk3
    exact⟨_,_,hr,.inr ⟨rfl,c,hIx _ _ _ _ _ (by omega) hx (fun o ho=>by rw[hl3]at ho;cases ho;rfl) (kept_putObj _ _ _),hl4,hk4⟩⟩
   rintro e a3 W3 hp
   cases e with
   |normal=>
    obtain⟨M',hi3,hk3,hm3⟩:=hp
    obtain⟨hr,hl3,hl4,hk4⟩:=fin none W3 hk3
    have hkf:Kept ((w.heap.size+1)::M1) W (W3.putObj (w.heap.size+1) (.loop (rec .ready none))):=
     (((Kept.of_below hba _).trans (hkb.more (fun k hk=>by simp at hk;simp[hk]))).trans (hk3.more (fun k hk=>List.mem_cons_of_mem _ hk))).trans ((kept_putObj _ _ _).more (fun k hk=>by simp at hk;simp[hk]))
    refine⟨_,_,hr,.inl ⟨rfl,(w.heap.size+1)::M',⟨M',rfl,hI _ _ _ _ _ (by omega) hi3 (fun o ho=>by rw[hl3]at ho;cases ho;rfl) (kept_putObj _ _ _),hl4,hk4⟩,hkf,fun k hk=>?_⟩⟩
    rcases List.mem_cons.1 hk with rfl | hk
    ·exact .inl (by simp)
    ·rcases hm3 k hk with h | h
     ·exact .inl (List.mem_cons_of_mem _ h)
     ·exact .inr (Nat.le_trans (Nat.le_trans hba.size hkb.size) h)
   |ret=>exact lv _ _ hp.1 hp.2
   |exit id=>exact lv _ _ hp.1 hp.2
   |goto t=>exact lv _ _ hp.1 hp.2
   |panic ch=>exact hp.elim
   |outgrown=>exact hp.elim
  ·rintro e W2 ⟨⟨v,rfl⟩,(⟨M',M1,_,hi,hl,hk⟩ | ⟨pre,hpre,c,hi,hl,hk⟩)⟩
   ·exact⟨none,_,by have:=run_endLoop (P:=P) hl (by rw[hrec];simp);rw[hrec]at this;exact this,hdone _ M1 _ (Nat.le_refl _) (hI _ _ _ _ _ (by omega) hi (fun o ho=>by rw[hl]at ho;cases ho;rfl) (kept_putObj _ _ _)) ((World.putObj_heap_other (by omega)).trans hk)⟩
   ·exact⟨some c,_,by have:=run_endLoop (P:=P) hl (by rw[hrec];simp);rw[hrec]at this;exact this,hstop _ c pre _ (Nat.le_refl _) hpre (hIx _ _ _ _ _ (by omega) hi (fun o ho=>by rw[hl]at ho;cases ho;rfl) (kept_putObj _ _ _)) ((World.putObj_heap_other (by omega)).trans hk)⟩
theorem wpListIn_append_run {ops:Array Oper}{rest:List Oper}{o:Oper}{a:Act}{w:World}{Q:Exit→Act→World→Prop}(hg:o.guard=none)(s x:Operand)(t:TypeId)
  (ho:o.op=.call { callee:=.builtin .append,args:=#[s,x],argTypes:=#[t,t] }) (v u:Value) (hs:a.eval s=v) (hx:a.eval x=u)
  (v':Value) (w':World) (hrun:(Builtin.append_ #[t,t] o.type #[v,u]).run P w=.ok v' w') (h:wpListIn F n P ops Q rest (a.put o.dst v') w'):wpListIn F n P ops Q (o::rest) a w:=
 wpListIn_plain hg fun _ hK=>by
  unfold Oper.wpIn
  refine⟨?_,?_⟩
  ·simp[Oper.about,ho,resolve,Target.leads,Sem.run_pure]
  ·rw[Oper.semAt_plain F _ _ (by rw[ho];intro c hc';cases hc')];simp[execOp,ho,resolve,invoke,builtin,hs,hx,hrun,Result.andThen];exact hK _ _ h
theorem cells_of_cell {w:World}{b o:Nat}{v:Value}(h:w.cell? ⟨b,o,none⟩=some v):∃ob,w.heap[b]? = some ob∧ob.isCells=true:=by
 unfold World.cell? at h
 cases hb:w.heap[b]? with
 |none=>rw[hb]at h;simp at h
 |some ob=>
  rw[hb]at h
  cases ob <;> first | exact⟨_,rfl,rfl⟩ | (simp at h)
theorem SlIs.offN {w:World}{A:OA}{l c:Nat}{xs:LI}(h:SlIs intR w A l c xs){k:Nat}(hn:∀o,w.heap[k]? = some o→o.isCells=false):Off [k] A l:=fun h0 ad e hm=>by
 have hl:=h.1;have hx:xs[0]? = some xs[0]:=List.getElem?_eq_getElem (by omega)
 obtain⟨b,off,e2,_,hc,_⟩:=h.int hx
 rw[e]at e2;cases e2
 obtain⟨ob,h1,h2⟩:=cells_of_cell hc
 simp at hm;subst hm;rw[hn _ h1]at h2;cases h2
theorem RuleIn.keptM {M:LN}{w B:World}{r:GRule}{hA bA wA:OA}{hl hc bl bc wl wc:Nat}(h:RuleIn w r hA hl hc bA bl bc wA wl wc)(hk:Kept M w B)(h1:Off M hA hl)(h2:Off M bA bl)(h3:Off M wA wl):RuleIn B r hA hl hc bA bl bc wA wl wc:=
 ⟨h.head.keptM hk h1,h.bound,h.body.keptM hk h2,h.wt.keptM hk h3⟩
theorem ownsRow_keptS {w w':World}{base size:Nat}{e:TypeId}{v:Value}{l:Nat}{cs:List Value}{S:LN}(h:w.ownsRow base e size v l cs)(hk:Kept S w w')(hne:∀k,v.ownBlock=some k→k∉S):w'.ownsRow base e size v l cs:=by
 refine⟨h.1,?_⟩
 rcases h.2 with h2 | ⟨g,cap,cur,rfl,b,c,d⟩
 ·exact .inl h2
 ·exact .inr ⟨g,cap,cur,rfl,b,(hk.block g (h.lt g rfl).2 (hne g rfl)).trans c,d⟩
theorem info_ruleF:(Tryz.prog.info? 42).map (fun i=>(i.zero,i.size,i.bytes))=some (some (.agg #[.bool false,.slice none 0 0,.bool false,.int .i64 0,.slice none 0 0,.slice none 0 0]),6,96):=by kernel_rfl
theorem appR {w:World}{base:Nat}{v:Value}{l:Nat}{cs:List Value}(h:w.ownsRow base 42 6 v l cs)(c0 c1 c2 c3 c4 c5:Value)(h1:∀u∈[c0,c1,c2,c3,c4,c5],u.oneCell'=true)(hs:l<1099511627776)(hb:base≤w.heap.size)(ty:TypeId):
  ∃v' w',(Builtin.append_ #[24,24] ty #[v,.slice (some ⟨w.heap.size,0,none⟩) 1 1]).run Tryz.prog (w.alloc (.cells #[c0,c1,c2,c3,c4,c5] 42))=.ok v' w'∧w'.ownsRow base 42 6 v' (l+1) (cs++[c0,c1,c2,c3,c4,c5])∧w.grownBy w' v.ownBlock ∧
   (∀k,v'.ownBlock=some k→v.ownBlock=some k∨w.heap.size≤k):=by
 obtain⟨i0,hi0,hz0,hz1,hz2⟩:=info_parts info_ruleF
 obtain⟨v',w',hrun,h2,h3,_,h5⟩:=run_append_own_at (P:=Tryz.prog) (w.alloc (.cells #[c0,c1,c2,c3,c4,c5] 42)) base 24 ty 42 i0 _ 6 96 Tryz.underlying24 hi0 hz0 hz1 hz2 rfl (by omega) v l _ (h.alloc _) ⟨w.heap.size,0,none⟩ 1 1 [c0,c1,c2,c3,c4,c5] rfl
  (by intro j u hj;match j,hj with
    |0,hj=>simp at hj;subst hj;simp[Addr.add]
    |1,hj=>simp at hj;subst hj;simp[Addr.add]
    |2,hj=>simp at hj;subst hj;simp[Addr.add]
    |3,hj=>simp at hj;subst hj;simp[Addr.add]
    |4,hj=>simp at hj;subst hj;simp[Addr.add]
    |5,hj=>simp at hj;subst hj;simp[Addr.add]
    |j+6,hj=>simp at hj) h1 (by unfold maxLen;omega) (by omega) (by simp;omega)
 refine⟨v',w',hrun,h2,⟨h3.os,h3.tape,h3.output,Nat.le_trans (by simp) h3.size,fun k hk hne=>?_⟩,fun k hk=>?_⟩
 ·rw[h3.block k (by simp;omega) hne];exact Below.heap_alloc w _ k hk
 ·rcases h5 with h5 | h5 <;> rw[h5]at hk
  ·exact .inl hk
  ·simp at hk;exact .inr (by omega)
open Go.RowKit Go.Shelf
attribute [local go_sem] Oper.semAt_some
def OutRow (W:World)(base:Nat)(v:Value)(cs:List Value)(M:LN)(pre:LG):Prop:=
 W.ownsRow base 42 6 v pre.length cs∧∀i x,pre[i]? = some x→∃(hA:OA) (hl hc:Nat) (bA:OA) (bl bc:Nat) (wA:OA) (wl wc:Nat),
  (cs.drop (i*6)).take 6=[.bool x.choice,.slice hA hl hc,.bool x.sum,.int .i64 x.bound,.slice bA bl bc,.slice wA wl wc]∧RuleIn W x hA hl hc bA bl bc wA wl wc∧Off M hA hl∧Off M bA bl∧Off M wA wl
def MOf (B0:Nat)(v:Value):LN:=B0::v.ownBlock.toList
def RI (w:World)(B0 base:Nat)(M:LN)(pre:LG)(W:World):Prop:=
 ∃v cs,M=MOf B0 v∧Blk W B0 24 #[v]∧OutRow W base v cs M pre∧Below w.heap.size w W∧base≤W.heap.size
theorem MOf_mem {B0 k:Nat}{v:Value}(h:k∈MOf B0 v):k=B0∨v.ownBlock=some k:=by
 unfold MOf at h;rcases List.mem_cons.1 h with h | h
 ·exact .inl h
 ·right;cases hv:v.ownBlock with
  |none=>rw[hv]at h;simp at h
  |some q=>rw[hv]at h;simp at h;rw[h]
theorem blk_ne {W:World}{g k:Nat}{t:TypeId}{cs:Array Value}(h:Blk W g t cs)(hn:∀o,W.heap[k]? = some o→o.isCells=false):k≠g:=fun e=>by
 subst e;have:=hn _ h;cases this
theorem own_ne {W:World}{base e size l:Nat}{v:Value}{cs:List Value}(h:W.ownsRow base e size v l cs){k:Nat}(hn:∀o,W.heap[k]? = some o→o.isCells=false):v.ownBlock≠some k:=fun hv=>by
 rcases h.2 with⟨rfl,_⟩ | ⟨g,cap,cur,rfl,_,hg,_⟩
 ·simp[Value.ownBlock]at hv
 ·have:g=k:=by simpa[Value.ownBlock]using hv
  subst this;have:=hn _ hg;cases this
theorem OutRow.keep {base:Nat}{v:Value}{cs:List Value}{M:LN}{pre:LG}{A B:World}{k:Nat}(h:OutRow A base v cs M pre)(hn:∀o,A.heap[k]? = some o→o.isCells=false)(hk:Kept [k] A B):OutRow B base v cs M pre:=by
 obtain⟨ho,hr⟩:=h
 refine⟨ownsRow_keptS ho hk (fun q hq hm=>by simp at hm;subst hm;exact own_ne ho hn hq),fun i x hx=>?_⟩
 obtain⟨hA,hl,hc,bA,bl,bc,wA,wl,wc,h1,h2,h3,h4,h5⟩:=hr i x hx
 exact⟨hA,hl,hc,bA,bl,bc,wA,wl,wc,h1,h2.keptM hk (h2.head.offN hn) (h2.body.offN hn) (h2.wt.offN hn),h3,h4,h5⟩
theorem RI.keep {w:World}{B0 base:Nat}{M:LN}{pre:LG}{A B:World}{k:Nat}(h:RI w B0 base M pre A)(hn:∀o,A.heap[k]? = some o→o.isCells=false)(hk:Kept [k] A B)(hkw:w.heap.size≤k):RI w B0 base M pre B:=by
 obtain⟨v,cs,rfl,hb,⟨ho,hr⟩,hw,hbs⟩:=h
 refine⟨v,cs,rfl,hk.blk hb (by have:=blk_ne hb hn;simp;omega),⟨ownsRow_keptS ho hk (fun q hq hm=>by simp at hm;subst hm;exact own_ne ho hn hq),fun i x hx=>?_⟩,Kept.below hw hk hw.size (fun q hq=>by simp at hq;omega),Nat.le_trans hbs hk.size⟩
 obtain⟨hA,hl,hc,bA,bl,bc,wA,wl,wc,h1,h2,h3,h4,h5⟩:=hr i x hx
 exact⟨hA,hl,hc,bA,bl,bc,wA,wl,wc,h1,h2.keptM hk (h2.head.offN hn) (h2.body.offN hn) (h2.wt.offN hn),h3,h4,h5⟩
theorem RI.cells {w:World}{B0 base:Nat}{M:LN}{pre:LG}{W:World}(h:RI w B0 base M pre W):∀k∈M,∃o,W.heap[k]? = some o∧o.isCells=true:=by
 obtain⟨v,cs,rfl,hb,⟨ho,_⟩,_⟩:=h
 intro k hk;rcases MOf_mem hk with rfl | hv
 ·exact⟨_,hb,rfl⟩
 ·rcases ho.2 with⟨rfl,_⟩ | ⟨g,cap,cur,rfl,_,hg,_⟩
  ·simp[Value.ownBlock]at hv
  ·have:g=k:=by simpa[Value.ownBlock]using hv
   subst this;exact⟨_,hg,rfl⟩
theorem RI.bel {w:World}{B0 base:Nat}{M:LN}{pre:LG}{A B:World}(h:RI w B0 base M pre A)(hb:Below A.heap.size A B):RI w B0 base M pre B:=by
 have hw:=h
 obtain⟨v,cs,rfl,hb1,ho,hbw,_⟩:=hw
 exact h.keep (k:=A.heap.size) (fun o e=>by simp at e) (Kept.of_below hb _) hbw.size
theorem OutRow.sl {W:World}{base:Nat}{v:Value}{cs:List Value}{M:LN}{pre:LG}(h:OutRow W base v cs M pre)(hs:pre.length≤17592186044416):∃A c,v=.slice A pre.length c∧SlIs ruleR W A pre.length c pre:=
 SlIs.of_own (R:=ruleR) h.1 rfl hs (fun i x hx=>by
  obtain⟨hA,hl,hc,bA,bl,bc,wA,wl,wc,h1,h2,_⟩:=h.2 i x hx
  exact⟨.slice hA hl hc,.slice bA bl bc,.slice wA wl wc,h1,⟨hA,hl,hc,rfl,h2.head⟩,h2.bound,⟨bA,bl,bc,rfl,h2.body⟩,⟨wA,wl,wc,rfl,h2.wt⟩⟩)
theorem OutRow.snoc {W V:World}{base:Nat}{v v':Value}{cs:List Value}{M M':LN}{pre:LG}{x:GRule}{hA:OA}{hl hc:Nat}{bA:OA}{bl bc:Nat}{wA:OA}{wl wc:Nat}
  (h:OutRow W base v cs M pre) (hx:RuleIn W x hA hl hc bA bl bc wA wl wc) (o1:Off M hA hl) (o2:Off M bA bl) (o3:Off M wA wl)
  (hV:V.ownsRow base 42 6 v' (pre.length+1) (cs++[.bool x.choice,.slice hA hl hc,.bool x.sum,.int .i64 x.bound,.slice bA bl bc,.slice wA wl wc])) (hk:Kept M W V) (hm:∀k∈M',k∈M∨W.heap.size≤k):OutRow V base v' (cs++[.bool x.choice,.slice hA hl hc,.bool x.sum,.int .i64 x.bound,.slice bA bl bc,.slice wA wl wc]) M' (pre++[x]):=by
 have off:∀{A:OA} {l c:Nat} {xs:LI},SlIs intR W A l c xs→Off M A l→Off M' A l:=fun hs ho h0 ad e hq=>by
  rcases hm _ hq with h1 | h1
  ·exact ho h0 ad e h1
  ·have:=hs.blk_lt h0 e;omega
 have hcl:cs.length=pre.length*6:=h.1.1
 refine⟨by simpa using hV,fun i z hz=>?_⟩
 rcases Nat.lt_trichotomy i pre.length with hi | hi | hi
 ·rw[List.getElem?_append_left hi]at hz
  obtain⟨hA,hl,hc,bA,bl,bc,wA,wl,wc,h1,h2,h3,h4,h5⟩:=h.2 i z hz
  refine⟨hA,hl,hc,bA,bl,bc,wA,wl,wc,?_,h2.keptM hk h3 h4 h5,off h2.head h3,off h2.body h4,off h2.wt h5⟩
  rw[List.drop_append_of_le_length (by omega),List.take_append_of_le_length (by rw[List.length_drop];omega)];exact h1
 ·subst hi;simp at hz;subst hz
  refine⟨hA,hl,hc,bA,bl,bc,wA,wl,wc,?_,hx.keptM hk o1 o2 o3,off hx.head o1,off hx.body o2,off hx.wt o3⟩
  rw[← hcl,List.drop_left];rfl
 ·rw[List.getElem?_eq_none (by simp;omega)]at hz;cases hz
theorem reduced_any (p:GProg)(nA:OA)(nl nc:Nat)(sA:OA)(sl sc:Nat)(rA:OA)(rl rc:Nat)(mA:OA)(ml mc:Nat)(a:Nat)(w:World):
  Calls Tryz.prog 71 #[.agg #[.int .i64 p.n,.slice nA nl nc,.slice sA sl sc,.slice rA rl rc,.slice mA ml mc],.func (.func 117) #[] #[.pointer (some ⟨a,0,none⟩)]] w fun e w'=>e=.returned (.func (.func 115) #[] #[.pointer (some ⟨w.heap.size,0,none⟩),.pointer (some ⟨w.heap.size+1,0,none⟩)]) ∧
   w'=(w.alloc (.cells #[.int .i64 p.n,.slice nA nl nc,.slice sA sl sc,.slice rA rl rc,.slice mA ml mc] 27)).alloc (.cells #[.func (.func 117) #[] #[.pointer (some ⟨a,0,none⟩)]] 103):=by
 go_enter Tryz.func71,Tryz.ntmps71;go_wp2;go_ret
 exact⟨rfl,rfl⟩
open Go.RowKit Go.Shelf
attribute [local go_sem] Oper.semAt_some
structure RedRes (W:World)(bp bi a:Nat)(p:GProg)(pv:Nat→Value)(rA:OA)(rl rc:Nat)(ms:LI):Prop where
 c0:W.cell? ⟨bp,3,none⟩=some (.slice rA rl rc)
 ci:W.cell? ⟨bi,0,none⟩=some (.func (.func 117) #[] #[.pointer (some ⟨a,0,none⟩)])
 mem:MemIn W a ms
theorem reductL_pre (rs:LG)(ms:LI)(k:Nat):reductL (rs.take k) ms <+: reductL rs ms:=by
 refine⟨reductL (rs.drop k) ms,?_⟩
 unfold reductL;rw[← List.flatMap_append,List.take_append_drop]
theorem sl_one {W:World}{H:Nat}{y:Int}(h:Blk W H 3 #[.int .i64 y])(hy:I64 y):SlIs intR W (some ⟨H,0,none⟩) 1 1 [y]:=by
 refine⟨rfl,Nat.le_refl _,⟨by unfold maxLen;omega,by omega⟩,fun _=>⟨_,rfl,h.lt,fun i x hx=>?_⟩⟩
 match i,hx with
 |0,hx=>
  simp at hx;subst hx
  refine⟨[.int .i64 y],⟨rfl,hy⟩,fun j u hu=>?_⟩
  match j,hu with
  |0,hu=>simp at hu;subst hu;rw[add_none];exact h.cell 0
  |j+1,hu=>simp at hu
 |i+1,hx=>simp at hx
theorem red_end {x:GRule}{y:Int}{wr Z w3 V:World}{M:LN}{H:Nat}{bA wA:OA}{bl bc wl wc:Nat}(hZ:Below wr.heap.size wr Z)(hz:wr.heap.size<Z.heap.size)(hb3:Below Z.heap.size Z w3)
  (hs2:SlIs intR w3 bA bl bc x.body) (f2:Frs Z.heap.size bA bl) (hs3:SlIs intR w3 wA wl wc x.w) (f3:Frs Z.heap.size wA wl) (hM:∀q∈M,q<wr.heap.size) (hx:I64 x.bound) (hy:I64 y)
  (hV:Kept [wr.heap.size] w3 V) (hH:Blk V H 3 #[.int .i64 y]) (hHM:Z.heap.size≤H):
  GoodR M { x with head:=[y] } #[.agg #[.bool x.choice,.slice (some ⟨H,0,none⟩) 1 1,.bool x.sum,.int .i64 x.bound,.slice bA bl bc,.slice wA wl wc]] V∧Below wr.heap.size wr V:=
 ⟨⟨some ⟨H,0,none⟩,1,1,bA,bl,bc,wA,wl,wc,rfl,⟨sl_one hH hy,hx,hs2.keptM hV (fun h0 ad e hm=>by have:=f2 h0 ad e;simp at hm;omega),hs3.keptM hV (fun h0 ad e hm=>by have:=f3 h0 ad e;simp at hm;omega)⟩,
   fun _ ad e hm=>by cases e;have:=hM _ hm;simp at this;omega,f2.off (fun q hq=>by have:=hM q hq;omega),f3.off (fun q hq=>by have:=hM q hq;omega)⟩,
  Kept.below (bel_trans hZ hb3) hV (by have:=hb3.size;omega) (fun q hq=>by simp at hq;omega)⟩
theorem red1_iter (m:Nat)(hm:1≤m)(p:GProg)(bp bi a:Nat)(pv:Nat→Value)(rA:OA)(rl rc:Nat)(ms:LI)(M0:LN)(v0 w:World)(hr0:SlIs ruleR v0 rA rl rc p.rules)(hb0:Below v0.heap.size v0 w)(hM0:∀q∈M0,v0.heap.size≤q)
  (hres:∀M W,(∀k∈M,k∈M0∨w.heap.size≤k)→Kept M w W→RedRes W bp bi a p pv rA rl rc ms) (hv:∀r∈p.rules,RuleIs r p.n):
  IterM Fence.wide m Tryz.prog 115 #[.pointer (some ⟨bp,0,none⟩),.pointer (some ⟨bi,0,none⟩)] GoodR (reductL p.rules ms) M0 w:=by
 intro l J Jx M W hJ hJx hJM hY h0 hbw hM;refine callsIn_of_wp Tryz.func115 rfl trivial ?_ rfl;simp only[Tryz.ntmps115,List.size_toArray,List.length_cons,List.length_nil,Nat.reduceAdd,Nat.reduceSub,Array.replicate_succ,Array.replicate_zero,List.push_toArray,List.append_toArray,List.nil_append,List.cons_append];have hR:=hres M W hM (Kept.of_below hbw _);have c3:=hR.c0;have hrc:=hr0.cap;have hrm:=hr0.max;have hB0:∀M W,(∀k∈M,k∈M0∨w.heap.size≤k)→Kept M w W→Below v0.heap.size v0 W:=fun M W h1 h2=>Kept.below hb0 h2 hb0.size (fun q hq=>by rcases h1 q hq with h | h;exact hM0 q h;exact Nat.le_trans hb0.size h);have HJ':=Zq1 hJ;clear hJ
 obtain⟨HB0',HY',HR0,HB0,HM0,HR,HRES,HV,HJX,HJM,H0,HM⟩:=Zq12 hB0 hY hr0 hb0 hM0 hR hres hv hJx hJM h0 hM;clear hB0 hY hr0 hb0 hM0 hR hres hv hJx hJM h0 hM
 have HBW:=Zq1 hbw;clear hbw;gi_wp2;gi_loopw [14] (fun t wr=>∃(k:Nat) (M Ms:LN),k≤rl∧t=.int .i64 (k:Int)∧J M (reductL (p.rules.take k) ms) wr∧Kept Ms w wr∧(∀q∈M,q∈Ms)∧(∀q∈Ms,q∈M0∨w.heap.size≤q)) (fun t _=>rl-(intOf t).toNat)
 case atStart=>exact⟨0,M,M,Nat.zero_le _,rfl,H0.out,Kept.of_below HBW.out _,fun _ h=>h,HM.out⟩
 case round=>
  obtain⟨k,M1,Ms,hk,rfl,hj,hkw,hsub,hM1⟩:=hrel
  have hR1:=HRES.out Ms wr hM1 hkw;have hBr:=HB0'.out Ms wr hM1 hkw;have ci:=hR1.ci
  by_cases hlt:k<rl
  ·obtain⟨r,hri,-⟩:=HR0.out.drop hlt
   obtain⟨b,off,hA,hl,hc,bA,bl,bc,wA,wl,wc,rfl,hbl2,c0,c1,c2,c3',c4,c5,g1,g2,g3,g4⟩:=HR0.out.rule hri
   have G0:=Zq1 g1;replace c0:=(hBr.cell (World.block_lt_of_cell? _ _ c0)).trans c0;replace c1:=(hBr.cell (World.block_lt_of_cell? _ _ c1)).trans c1;replace c2:=(hBr.cell (World.block_lt_of_cell? _ _ c2)).trans c2;replace c3':=(hBr.cell (World.block_lt_of_cell? _ _ c3')).trans c3';replace c4:=(hBr.cell (World.block_lt_of_cell? _ _ c4)).trans c4;replace c5:=(hBr.cell (World.block_lt_of_cell? _ _ c5)).trans c5;replace g1:=g1.ext hBr;replace g3:=g3.ext hBr;replace g4:=g4.ext hBr;have k0:(0:Int)≤(k:Int):=(by omega);have k1:(k:Int)<(rl:Int):=(by omega);have hms:=HJM.out _ _ _ hj;have hbi:=World.block_lt_of_cell? _ _ ci;simp only at hbi;have hvr:=HV.out r (List.mem_of_getElem? hri);have htk:=reductL_take (m:=ms) hri;have cP:=fun W (hb:Below wr.heap.size wr W)=>positive_any r hA hl hc bA bl bc wA wl wc a ms p.n W ⟨g1.ext hb,g2,g3.ext hb,g4.ext hb⟩ (hR1.mem.ext hb) hvr
   obtain⟨HJ1,HBR,HKW,HM1,HR1,HRI,G1,G2,G3,G4,HMS,HVR⟩:=Zq12 hj hBr hkw hM1 hR1 hri g1 g2 g3 g4 hms hvr;clear hj hBr hkw hM1 hR1 hri g1 g2 g3 g4 hms hvr
   obtain⟨HTK,CP,HSUB⟩:=Zq3 htk cP hsub;clear htk cP hsub
   gi_wp2_with fail
   refine⟨trivial,?_⟩
   refine(callsIn_wide.2 (CP.out _ (bel_alloc _ _))).mono ?_
   rintro e w1 (⟨hd,rfl,hb1⟩ | ⟨hd,xA,xl,xc,yA,yl,yc,rfl,hx,fx,fy,hb1⟩)
   ·have hb1':=bel_trans (bel_alloc _ _) hb1;have hj':=HJ'.out _ _ _ _ HJ1.out (bel_trans hb1' (bel_alloc w1 (.cells #[.bool false,.slice none 0 0,.bool false,.int .i64 0,.slice none 0 0,.slice none 0 0] 42)));have hk':=(HKW.out.bel hb1').alloc (.cells #[.bool false,.slice none 0 0,.bool false,.int .i64 0,.slice none 0 0,.slice none 0 0] 42);have hred:redOne ms r=[]:=(by unfold redOne;rw[hd];rfl);have htk:=HTK.out;rw[hred,List.append_nil]at htk
    obtain⟨HB1,HB1',HJ',HK',HRED,HTK,HD⟩:=Zq7 hb1 hb1' hj' hk' hred htk hd;clear hb1 hb1' hj' hk' hred htk hd
    gi_wp2_with fail;go_roundw;exact⟨k+1,M1,Ms,by omega,by go_num,by rw[HTK.out];exact HJ'.out,HK'.out,HSUB.out,HM1.out⟩;simp[intOf];omega
   ·have hb1':=bel_trans (bel_alloc _ _) hb1;have hbx0:=(Blk.new wr 42 #[.bool r.choice,.slice hA hl hc,.bool r.sum,.int .i64 r.bound,.slice bA bl bc,.slice wA wl wc]).bel hb1;have q0:w1.cell? ⟨wr.heap.size,0,none⟩=some (.bool r.choice):=hbx0.cell 0;have q1:w1.cell? ⟨wr.heap.size,1,none⟩=some (.slice hA hl hc):=hbx0.cell 1;have hzz:=hbx0.lt
    by_cases hch:r.choice=true
    ·rw[hch]at q0;have hY1:=Blk.new w1 42 #[.bool (posRule r ms).choice,.slice none 0 0,.bool (posRule r ms).sum,.int .i64 (posRule r ms).bound,.slice xA xl xc,.slice yA yl yc];have hrY:=hbx0.alloc (.cells #[.bool (posRule r ms).choice,.slice none 0 0,.bool (posRule r ms).sum,.int .i64 (posRule r ms).bound,.slice xA xl xc,.slice yA yl yc] 42);have hbY:=bel_trans hb1' (bel_alloc w1 (.cells #[.bool (posRule r ms).choice,.slice none 0 0,.bool (posRule r ms).sum,.int .i64 (posRule r ms).bound,.slice xA xl xc,.slice yA yl yc] 42));have hxY:=hx.ext (bel_alloc w1 (.cells #[.bool (posRule r ms).choice,.slice none 0 0,.bool (posRule r ms).sum,.int .i64 (posRule r ms).bound,.slice xA xl xc,.slice yA yl yc] 42));have hsY:(w1.alloc (.cells #[.bool (posRule r ms).choice,.slice none 0 0,.bool (posRule r ms).sum,.int .i64 (posRule r ms).bound,.slice xA xl xc,.slice yA yl yc] 42)).heap.size=w1.heap.size+1:=(by simp);have hred:redOne ms r=(r.head.filter fun a=>decide (a∈ms)).map fun a=>{ posRule r ms with head:=[a] }:=(by unfold redOne;rw[hd,hch];rfl);generalize hpr:posRule r ms=x at *
     obtain⟨HB1,HB1',HBX0,HX,FX,FY,HD,HY1,HBY,HRY,HXY,HSY⟩:=Zq12 hb1 hb1' hbx0 hx fx fy hd hY1 hbY hrY hxY hsY;clear hb1 hb1' hbx0 hx fx fy hd hY1 hbY hrY hxY hsY
     obtain⟨HCH,HPR,HRED⟩:=Zq3 hch hpr hred;clear hch hpr hred
     gi_wp2_with fail;generalize w1.alloc (.cells #[.bool x.choice,.slice none 0 0,.bool x.sum,.int .i64 x.bound,.slice xA xl xc,.slice yA yl yc] 42)=Y at *;clear q0 q1 c0 c1 c2 c3' c4 c5 ci c3;have hhc:=G1.out.cap;have hhm:=G1.out.max;have hjY:=HJ'.out _ _ _ _ HJ1.out HBY.out;have HJY:=Zq1 hjY;clear hjY
     obtain⟨wo,rfl⟩:∃wo:World,wo=wr:=⟨_,rfl⟩
     gi_loopw [27] (fun t wq=>∃(j:Nat) (M Mt:LN),j≤hl∧t=.int .i64 (j:Int)∧J M (reductL (p.rules.take k) ms++((r.head.take j).filter fun a=>decide (a∈ms)).map fun a=>{ x with head:=[a] }) wq∧Kept Mt Y wq∧(∀q∈M,q∈Mt)∧(∀q∈Mt,q∈M1∨Y.heap.size≤q)) (fun t _=>hl-(intOf t).toNat)
     case atStart=>exact⟨0,M1,M1,Nat.zero_le _,rfl,by rw[List.take_zero,List.filter_nil,List.map_nil,List.append_nil];exact HJY.out,Kept.refl _ _,fun _ h=>h,fun _ h=>.inl h⟩
     case round=>
      obtain⟨j,M,Mt,hj,rfl,hjj,hkY,hMt,hcY⟩:=hrel
      have hkw2:Kept (Ms++Mt) w wr:=((HKW.out.bel HBY.out).more (fun q hq=>by simp[hq])).trans (hkY.more (fun q hq=>by simp[hq]))
      have hcw2:∀q∈Ms++Mt,q∈M0∨w.heap.size≤q:=fun q hq=>by
       rcases List.mem_append.1 hq with h | h
       ·exact HM1.out q h
       ·rcases hcY q h with h | h
        ·exact HM1.out q (HSUB.out q h)
        ·exact .inr (Nat.le_trans (HKW.out.bel HBY.out).size h)
      have hR2:=HRES.out _ wr hcw2 hkw2;have hB2:=HB0'.out _ wr hcw2 hkw2;have hlo:wo.heap.size<w1.heap.size:=hzz
      have hof:∀q,wo.heap.size≤q→q<w1.heap.size+1→q∉Mt:=fun q h1 h2 hm=>by
       rcases hcY q hm with h | h
       ·have:=HMS.out q h;omega
       ·have:=HSY.out;omega
      have hYr:=hkY.blk HRY.out (hof _ (Nat.le_refl _) (by omega));have hYx:=hkY.blk HY1.out (hof _ (by omega) (by omega))
      have hxr:RuleIn wr x none 0 0 xA xl xc yA yl yc:=⟨HXY.out.head.keptM hkY (Off.nil _ _),HX.out.bound,
       HXY.out.body.keptM hkY (fun h0 ad e=>hof _ (by have:=FX.out h0 ad e;simp at this;omega) (by have:=HX.out.body.blk_lt h0 e;omega)),
       HXY.out.wt.keptM hkY (fun h0 ad e=>hof _ (by have:=FY.out h0 ad e;simp at this;omega) (by have:=HX.out.wt.blk_lt h0 e;omega))⟩
      have hsY2:w1.heap.size+1≤wr.heap.size:=(by have:=hkY.size;have:=HSY.out;omega);have ci:=hR2.ci;have hbi2:=World.block_lt_of_cell? _ _ ci
      by_cases hlj:j<hl
      ·obtain⟨y,hy,-⟩:=G0.out.drop hlj
       obtain⟨yb,yo,rfl,_,cy,hy64⟩:=(G0.out.ext hB2).int hy
       have j0:(0:Int)≤(j:Int):=(by omega);have j1:(j:Int)<(hl:Int):=(by omega);have cM:=memberF_any y a ms wr hR2.mem hy64
       have hst:((r.head.take (j+1)).filter fun a=>decide (a∈ms))=if decide (y∈ms)then((r.head.take j).filter fun a=>decide (a∈ms))++[y]else((r.head.take j).filter fun a=>decide (a∈ms)):=by
        rw[take_snoc' hy,List.filter_append]
        by_cases h1:y∈ms <;> simp[h1]
       by_cases hin:decide (y∈ms)=true
       ·rw[hin]at cM hst;rw[if_pos rfl]at hst;have x0:wr.cell? ⟨w1.heap.size,0,none⟩=some (.bool x.choice):=hYx.cell 0;have x1:wr.cell? ⟨w1.heap.size,1,none⟩=some (.slice none 0 0):=hYx.cell 1;have x2:wr.cell? ⟨w1.heap.size,2,none⟩=some (.bool x.sum):=hYx.cell 2;have x3:wr.cell? ⟨w1.heap.size,3,none⟩=some (.int .i64 x.bound):=hYx.cell 3;have x4:wr.cell? ⟨w1.heap.size,4,none⟩=some (.slice xA xl xc):=hYx.cell 4;have x5:wr.cell? ⟨w1.heap.size,5,none⟩=some (.slice yA yl yc):=hYx.cell 5
        obtain⟨HJJ,HKY,HMT,HCY,HKW2,HCW2,HR2,HB2,HOF,HYR,HYX,HXR⟩:=Zq12 hjj hkY hMt hcY hkw2 hcw2 hR2 hB2 hof hYr hYx hxr;clear hjj hkY hMt hcY hkw2 hcw2 hR2 hB2 hof hYr hYx hxr
        obtain⟨CM,HST,HIN,HY,HY64⟩:=Zq5 cM hst hin hy hy64;clear cM hst hin hy hy64
        gi_wp2_with fail
        refine⟨trivial,?_⟩
        refine(callsIn_wide.2 CM.out).mono ?_
        rintro e w' ⟨rfl,rfl⟩;gi_wp2_with fail;refine wpIn_wide.2 ?_;have hZ:=bel_alloc wr (.cells #[.bool x.choice,.slice none 0 0,.bool x.sum,.int .i64 x.bound,.slice xA xl xc,.slice yA yl yc] 42);have bZ:=Blk.new wr 42 #[.bool x.choice,.slice none 0 0,.bool x.sum,.int .i64 x.bound,.slice xA xl xc,.slice yA yl yc];have sZ:(wr.alloc (.cells #[.bool x.choice,.slice none 0 0,.bool x.sum,.int .i64 x.bound,.slice xA xl xc,.slice yA yl yc] 42)).heap.size=wr.heap.size+1:=(by simp);generalize wr.alloc (.cells #[.bool x.choice,.slice none 0 0,.bool x.sum,.int .i64 x.bound,.slice xA xl xc,.slice yA yl yc] 42)=Z at *;have lZ:w1.heap.size<Z.heap.size:=(by omega);have lZ2:wr.heap.size<Z.heap.size:=(by omega);replace x4:=(hZ.cell (p:=⟨w1.heap.size,4,none⟩) (show w1.heap.size<wr.heap.size by omega)).trans x4;replace x5:=(hZ.cell (p:=⟨w1.heap.size,5,none⟩) (show w1.heap.size<wr.heap.size by omega)).trans x5;clear x0 x1 x2 x3 ci cy;have z1:Z.cell? ⟨wr.heap.size,1,none⟩=some (.slice none 0 0):=bZ.cell 1;have z4:Z.cell? ⟨wr.heap.size,4,none⟩=some (.slice xA xl xc):=bZ.cell 4;have z5:Z.cell? ⟨wr.heap.size,5,none⟩=some (.slice yA yl yc):=bZ.cell 5;have zf1:Z.frozen? ⟨wr.heap.size,1,none⟩=false:=bZ.frozen 1;have zf4:Z.frozen? ⟨wr.heap.size,4,none⟩=false:=bZ.frozen 4;have zf5:Z.frozen? ⟨wr.heap.size,5,none⟩=false:=bZ.frozen 5;have cb:=fun W (hb:Below Z.heap.size Z W)=>clone2_any xA xl xc x.body W ((HXR.out.body.ext hZ).ext hb);have cw:=fun W (hb:Below Z.heap.size Z W)=>clone2_any yA yl yc x.w W ((HXR.out.wt.ext hZ).ext hb)
        obtain⟨HZ,BZ,SZ,CB,CW⟩:=Zq5 hZ bZ sZ cb cw;clear hZ bZ sZ cb cw
        go_region_with (first
         | (go_at_call 52;with_reducible (refine(CB.out _ ?_).mono ?_);(first | exact(Below.refl _ _).drew | exact(bel_alloc _ _).drew);rintro e w2 ⟨bA2,bl2,bc2,rfl,hs2,hf2,hb2⟩;(first | (have hbz2:=bel_trans (Below.refl Z.heap.size Z).drew hb2) | (have hbz2:=bel_trans (bel_alloc Z _).drew hb2));have x4':=(hbz2.cell (p:=⟨w1.heap.size,4,none⟩) lZ).trans x4;have x5':=(hbz2.cell (p:=⟨w1.heap.size,5,none⟩) lZ).trans x5;have hz2:=hbz2.size;have lw2:w1.heap.size<w2.heap.size:=Nat.lt_of_lt_of_le lZ hz2;have lv2:wr.heap.size<w2.heap.size:=Nat.lt_of_lt_of_le lZ2 hz2;have HB2:=Zq1 hb2;have HBZ2:=Zq1 hbz2;have HS2:=Zq1 hs2;have HF2:=Zq1 hf2;clear hb2 hs2 hf2 hbz2)
         | (go_at_call 52;with_reducible (refine(CW.out _ ?_).mono ?_);(first | exact HBZ2.out | exact HBZ2.out.drew | exact bel_trans HBZ2.out (bel_alloc _ _) | exact(bel_trans HBZ2.out (bel_alloc _ _)).drew);rintro e w3 ⟨wA2,wl2,wc2,rfl,hs3,hf3,hb3⟩;(first | (have hbz3:=bel_trans HBZ2.out hb3) | (have hbz3:=bel_trans (bel_trans HBZ2.out (bel_alloc _ _)) hb3));have z1':=(hbz3.cell (p:=⟨wr.heap.size,1,none⟩) lZ2).trans z1;have z4':=(hbz3.cell (p:=⟨wr.heap.size,4,none⟩) lZ2).trans z4;have z5':=(hbz3.cell (p:=⟨wr.heap.size,5,none⟩) lZ2).trans z5;have zf1':=(hbz3.frozen (p:=⟨wr.heap.size,1,none⟩) lZ2).trans zf1;have zf4':=(hbz3.frozen (p:=⟨wr.heap.size,4,none⟩) lZ2).trans zf4;have zf5':=(hbz3.frozen (p:=⟨wr.heap.size,5,none⟩) lZ2).trans zf5;have hz3:=hbz3.size;have lw3:w1.heap.size<w3.heap.size:=Nat.lt_of_lt_of_le lZ hz3;have lv3:wr.heap.size<w3.heap.size:=Nat.lt_of_lt_of_le lZ2 hz3;have HB3:=Zq1 hb3;have HBZ3:=Zq1 hbz3;have HS3:=Zq1 hs3;have HF3:=Zq1 hf3;clear hb3 hs3 hf3 hbz3))
        all_goals
         have hMl:∀q∈M,q<wr.heap.size:=HJM.out _ _ _ HJJ.out;have f2:Frs Z.heap.size bA2 bl2:=HF2.out.mono (by simp);have f3:Frs Z.heap.size wA2 wl2:=HF3.out.mono (by first | exact hz2 | (simp;omega));have s2:=SlIs.ext HS2.out (by first | exact HB3.out | exact bel_trans (bel_alloc _ _) HB3.out | exact bel_trans (bel_alloc _ _).drew HB3.out)
         first
          | (have hH:Blk (((w3.setCell ⟨wr.heap.size,1,none⟩ (.slice (some ⟨Z.heap.size,0,none⟩) 1 1)).setCell ⟨wr.heap.size,4,none⟩ (.slice bA2 bl2 bc2)).setCell ⟨wr.heap.size,5,none⟩ (.slice wA2 wl2 wc2)) Z.heap.size 3 #[.int .i64 y]:=(((((Blk.new Z 3 #[.int .i64 y]).drew.bel HB2.out).bel HB3.out).far (p:=⟨wr.heap.size,1,none⟩) (show Z.heap.size≠wr.heap.size by omega) _).far (p:=⟨wr.heap.size,4,none⟩) (show Z.heap.size≠wr.heap.size by omega) _).far (p:=⟨wr.heap.size,5,none⟩) (show Z.heap.size≠wr.heap.size by omega) _;have hgo:=red_end HZ.out lZ2 HBZ3.out s2 f2 HS3.out f3 hMl HXR.out.bound HY64.out (((((Kept.refl [wr.heap.size] w3).set (p:=⟨wr.heap.size,1,none⟩) (.inl (by simp)) (.slice (some ⟨Z.heap.size,0,none⟩) 1 1)).set (p:=⟨wr.heap.size,4,none⟩) (.inl (by simp)) (.slice bA2 bl2 bc2)).set (p:=⟨wr.heap.size,5,none⟩) (.inl (by simp)) (.slice wA2 wl2 wc2))) hH (Nat.le_refl _))
          | (have hH:Blk (((w3.setCell ⟨wr.heap.size,1,none⟩ (.slice (some ⟨w2.heap.size,0,none⟩) 1 1)).setCell ⟨wr.heap.size,4,none⟩ (.slice bA2 bl2 bc2)).setCell ⟨wr.heap.size,5,none⟩ (.slice wA2 wl2 wc2)) w2.heap.size 3 #[.int .i64 y]:=((((Blk.new w2 3 #[.int .i64 y]).bel HB3.out).far (p:=⟨wr.heap.size,1,none⟩) (show w2.heap.size≠wr.heap.size by omega) _).far (p:=⟨wr.heap.size,4,none⟩) (show w2.heap.size≠wr.heap.size by omega) _).far (p:=⟨wr.heap.size,5,none⟩) (show w2.heap.size≠wr.heap.size by omega) _;have hgo:=red_end HZ.out lZ2 HBZ3.out s2 f2 HS3.out f3 hMl HXR.out.bound HY64.out (((((Kept.refl [wr.heap.size] w3).set (p:=⟨wr.heap.size,1,none⟩) (.inl (by simp)) (.slice (some ⟨w2.heap.size,0,none⟩) 1 1)).set (p:=⟨wr.heap.size,4,none⟩) (.inl (by simp)) (.slice bA2 bl2 bc2)).set (p:=⟨wr.heap.size,5,none⟩) (.inl (by simp)) (.slice wA2 wl2 wc2))) hH hz2)
          | (have hH:Blk ((((w3.setCell ⟨wr.heap.size,1,none⟩ (.slice (some ⟨w3.heap.size,0,none⟩) 1 1)).setCell ⟨wr.heap.size,4,none⟩ (.slice bA2 bl2 bc2)).setCell ⟨wr.heap.size,5,none⟩ (.slice wA2 wl2 wc2)).alloc (.cells #[.int .i64 y] 3)) w3.heap.size 3 #[.int .i64 y]:=blk_new (by simp[World.setCell]) _ _;have hgo:=red_end HZ.out lZ2 HBZ3.out s2 f2 HS3.out f3 hMl HXR.out.bound HY64.out (((((Kept.refl [wr.heap.size] w3).set (p:=⟨wr.heap.size,1,none⟩) (.inl (by simp)) (.slice (some ⟨w3.heap.size,0,none⟩) 1 1)).set (p:=⟨wr.heap.size,4,none⟩) (.inl (by simp)) (.slice bA2 bl2 bc2)).set (p:=⟨wr.heap.size,5,none⟩) (.inl (by simp)) (.slice wA2 wl2 wc2)).alloc _) hH hz3)
         obtain⟨hgd,hbV⟩:=hgo
         have hpf:reductL (p.rules.take k) ms++((r.head.take j).filter fun a=>decide (a∈ms)).map (fun a=>{ x with head:=[a] })++[{ x with head:=[y] }] <+: reductL p.rules ms:=by
          refine List.IsPrefix.trans ?_ (reductL_pre p.rules ms (k+1));rw[HTK.out,HRED.out,List.append_assoc,List.prefix_append_right_inj,show ∀(g:Int→GRule) (l:LI) (z:Int),l.map g++[g z]=(l++[z]).map g from fun g l z=>by simp,← HST.out]
          exact(((List.take_prefix _ _).filter _).map _)
         obtain⟨fn,tmps,assign,body,hyy,hRd⟩:=HY'.out M _ _ _ _ (HJ'.out _ _ _ _ HJJ.out hbV) hpf hgd
         have hkV:=HKY.out.bel hbV;have q0:=(HBZ3.out.cell (p:=⟨wr.heap.size,0,none⟩) lZ2).trans (BZ.out.cell 0);have q2:=(HBZ3.out.cell (p:=⟨wr.heap.size,2,none⟩) lZ2).trans (BZ.out.cell 2);have q3:=(HBZ3.out.cell (p:=⟨wr.heap.size,3,none⟩) lZ2).trans (BZ.out.cell 3);change w3.cell? ⟨wr.heap.size,0,none⟩=some (.bool x.choice)at q0;change w3.cell? ⟨wr.heap.size,2,none⟩=some (.bool x.sum)at q2;change w3.cell? ⟨wr.heap.size,3,none⟩=some (.int .i64 x.bound)at q3
         have hq:reductL (p.rules.take k) ms++((r.head.take (j+1)).filter fun a=>decide (a∈ms)).map (fun a=>{ x with head:=[a] })=reductL (p.rules.take k) ms++((r.head.take j).filter fun a=>decide (a∈ms)).map (fun a=>{ x with head:=[a] })++[{ x with head:=[y] }]:=by
          rw[HST.out,List.map_append,List.append_assoc];rfl
         obtain⟨HML,F2,F3,S2,HH,HGD,HBV,HKV,HPF,HQ⟩:=Zq10 hMl f2 f3 s2 hH hgd hbV hkV hpf hq;clear hMl f2 f3 s2 hH hgd hbV hkV hpf hq
         gi_wp2_with fail;refine hRd.mono ?_;rintro e W4 (⟨rfl,M2,hj4,hk4,hm4⟩ | ⟨rfl,hjx⟩)
         ·have hw4:Kept (Mt++M2) Y W4:=(HKV.out.more (fun q hq=>by simp[hq])).trans (hk4.more (fun q hq=>by simp[HMT.out q hq]))
          have hc4:∀q∈Mt++M2,q∈M1∨Y.heap.size≤q:=fun q hq=>by
           rcases List.mem_append.1 hq with h | h
           ·exact HCY.out q h
           ·rcases hm4 q h with h | h
            ·exact HCY.out q (HMT.out q h)
            ·exact .inr (Nat.le_trans HKV.out.size h)
          obtain⟨HJ4,HK4,HM4,HW4,HC4⟩:=Zq5 hj4 hk4 hm4 hw4 hc4;clear hj4 hk4 hm4 hw4 hc4
          gi_wp2_with fail;go_roundw;exact⟨j+1,M2,Mt++M2,by omega,by go_num,by rw[HQ.out];exact HJ4.out,HW4.out,fun q hq=>by simp[hq],HC4.out⟩;simp[intOf];omega
         ·have HJX':=Zq1 hjx;clear hjx;gi_wp2_with fail;refine bodyPost_ret (results_none rfl _ _ _) rfl ?_
          exact⟨⟨_,rfl⟩,.inr ⟨_,HPF.out,HJX'.out⟩⟩
       ·have hnf:decide (y∈ms)=false:=(by simpa using hin);rw[hnf]at cM hst;rw[if_neg (by decide)]at hst
        obtain⟨HJJ,HKY,HMT,HCY,HKW2,HCW2,HR2,HB2,HOF,HYR,HYX,HXR⟩:=Zq12 hjj hkY hMt hcY hkw2 hcw2 hR2 hB2 hof hYr hYx hxr;clear hjj hkY hMt hcY hkw2 hcw2 hR2 hB2 hof hYr hYx hxr
        obtain⟨CM,HST,HIN,HNF,HY,HY64⟩:=Zq6 cM hst hin hnf hy hy64;clear cM hst hin hnf hy hy64
        gi_wp2_with fail
        refine⟨trivial,?_⟩
        refine(callsIn_wide.2 CM.out).mono ?_
        rintro e w' ⟨rfl,rfl⟩;gi_wp2_with fail;go_roundw;exact⟨j+1,M,Mt,by omega,by go_num,by rw[HST.out];exact HJJ.out,HKY.out,HMT.out,HCY.out⟩;simp[intOf];omega
      ·have hjl:j=hl:=(by omega)
       have hfin:J M (reductL (p.rules.take (k+1)) ms) wr:=by
        rw[HTK.out,HRED.out];rw[show r.head.take j=r.head from List.take_of_length_le (by have:=G1.out.len;omega)]at hjj;exact hjj
       obtain⟨HJJ,HKY,HMT,HCY,HKW2,HCW2,HR2,HB2,HOF,HYR,HYX,HXR⟩:=Zq12 hjj hkY hMt hcY hkw2 hcw2 hR2 hB2 hof hYr hYx hxr;clear hjj hkY hMt hcY hkw2 hcw2 hR2 hB2 hof hYr hYx hxr
       obtain⟨HJL,HFIN⟩:=Zq2 hjl hfin;clear hjl hfin
       gi_wp2_with fail;go_roundw;exact⟨k+1,M,Ms++Mt,by omega,by go_num,HFIN.out,HKW2.out,fun q hq=>by simp[HMT.out q hq],HCW2.out⟩;simp[intOf];omega
    ·have hcf:r.choice=false:=(by simpa using hch);clear hch;rw[hcf]at q0;have hY1:=Blk.new w1 42 #[.bool (posRule r ms).choice,.slice none 0 0,.bool (posRule r ms).sum,.int .i64 (posRule r ms).bound,.slice xA xl xc,.slice yA yl yc];have hbY:=bel_trans hb1' (bel_alloc w1 (.cells #[.bool (posRule r ms).choice,.slice none 0 0,.bool (posRule r ms).sum,.int .i64 (posRule r ms).bound,.slice xA xl xc,.slice yA yl yc] 42));have cC:=clone2_any hA hl hc r.head _ (G1.out.ext hbY);generalize hpr:posRule r ms=x at *
     obtain⟨HB1,HB1',HBX0,HX,FX,FY,HD,HY1,HBY,CC,HCF,HPR⟩:=Zq12 hb1 hb1' hbx0 hx fx fy hd hY1 hbY cC hcf hpr;clear hb1 hb1' hbx0 hx fx fy hd hY1 hbY cC hcf hpr
     gi_wp2_with fail
     refine⟨trivial,?_⟩
     refine(callsIn_wide.2 CC.out).mono ?_
     rintro e w2 ⟨cA,cl,cc,rfl,hcs,hcf,hb2⟩;have hY2:=HY1.out.bel hb2;have s0:w2.cell? ⟨w1.heap.size,0,none⟩=some (.bool x.choice):=hY2.cell 0;have s1:w2.cell? ⟨w1.heap.size,1,none⟩=some (.slice none 0 0):=hY2.cell 1;have s2:w2.cell? ⟨w1.heap.size,2,none⟩=some (.bool x.sum):=hY2.cell 2;have s3:w2.cell? ⟨w1.heap.size,3,none⟩=some (.int .i64 x.bound):=hY2.cell 3;have s4:w2.cell? ⟨w1.heap.size,4,none⟩=some (.slice xA xl xc):=hY2.cell 4;have s5:w2.cell? ⟨w1.heap.size,5,none⟩=some (.slice yA yl yc):=hY2.cell 5;have sf:w2.frozen? ⟨w1.heap.size,1,none⟩=false:=hY2.frozen 1;have hb2':=bel_trans HBY.out hb2;have k3:Kept [w1.heap.size] w2 (w2.setCell ⟨w1.heap.size,1,none⟩ (.slice cA cl cc)):=(Kept.refl _ _).set (.inl (by simp)) _;have hb3:Below wr.heap.size wr (w2.setCell ⟨w1.heap.size,1,none⟩ (.slice cA cl cc)):=Kept.below hb2' k3 hb2'.size (fun q hq=>by simp at hq;omega);have hj3:=HJ'.out _ _ _ _ HJ1.out hb3;have hsz2:=hb2.size;rw[World.size_alloc]at hsz2;have l1:=HB1'.out.size;have e2:Below w1.heap.size w1 w2:=bel_trans (bel_alloc _ _) hb2
     have hgd:GoodR M1 { x with head:=r.head } #[ruleV x (.slice cA cl cc) (.slice xA xl xc) (.slice yA yl yc)] (w2.setCell ⟨w1.heap.size,1,none⟩ (.slice cA cl cc)):=
      ⟨cA,cl,cc,xA,xl,xc,yA,yl,yc,rfl,⟨hcs.keptM k3 (fun h0 ad e hm=>by have:=hcf h0 ad e;simp at hm this;omega),HX.out.bound,
       (HX.out.body.ext e2).keptM k3 (fun h0 ad e hm=>by have:=HX.out.body.blk_lt h0 e;simp at hm;omega),(HX.out.wt.ext e2).keptM k3 (fun h0 ad e hm=>by have:=HX.out.wt.blk_lt h0 e;simp at hm;omega)⟩,
       Frs.off hcf (fun q hq=>by have:=HMS.out q hq;simp;omega),Frs.off FX.out (fun q hq=>by have:=HMS.out q hq;simp;omega),Frs.off FY.out (fun q hq=>by have:=HMS.out q hq;simp;omega)⟩
     have hred:redOne ms r=[{ x with head:=r.head }]:=(by unfold redOne;rw[HD.out,HCF.out,HPR.out];rfl)
     have hpf:reductL (p.rules.take k) ms++[{ x with head:=r.head }] <+: reductL p.rules ms:=by
      rw[← hred,← HTK.out];exact reductL_pre _ _ _
     obtain⟨fn,tmps,assign,body,hy,hRd⟩:=HY'.out M1 _ _ _ _ hj3 hpf hgd
     have hk3:=HKW.out.bel hb3;have htk:=HTK.out;rw[hred]at htk
     obtain⟨HPF,HCS,HCF,HB2,HY2,HB2',K3,HB3,HJ3,E2,HGD,HRED⟩:=Zq12 hpf hcs hcf hb2 hY2 hb2' k3 hb3 hj3 e2 hgd hred;clear hpf hcs hcf hb2 hY2 hb2' k3 hb3 hj3 e2 hgd hred
     obtain⟨HK3,HTK⟩:=Zq2 hk3 htk;clear hk3 htk
     gi_wp2_with fail;refine hRd.mono ?_;rintro e W4 (⟨rfl,M2,hj4,hk4,hm4⟩ | ⟨rfl,hjx⟩)
     ·have hw4:Kept (Ms++M2) w W4:=(HK3.out.more (fun q hq=>by simp[hq])).trans (hk4.more (fun q hq=>by simp[HSUB.out q hq]))
      have hc4:∀q∈Ms++M2,q∈M0∨w.heap.size≤q:=fun q hq=>by
       rcases List.mem_append.1 hq with h | h
       ·exact HM1.out q h
       ·rcases hm4 q h with h | h
        ·exact HM1.out q (HSUB.out q h)
        ·exact .inr (Nat.le_trans HK3.out.size h)
      obtain⟨HJ4,HK4,HM4,HW4,HC4⟩:=Zq5 hj4 hk4 hm4 hw4 hc4;clear hj4 hk4 hm4 hw4 hc4
      gi_wp2_with fail;go_roundw;exact⟨k+1,M2,Ms++M2,by omega,by go_num,by rw[HTK.out];exact HJ4.out,HW4.out,fun q hq=>by simp[hq],HC4.out⟩;simp[intOf];omega
     ·have HJX:=Zq1 hjx;clear hjx;gi_wp2_with fail;refine bodyPost_ret (results_none rfl _ _ _) rfl ?_
      exact⟨⟨_,rfl⟩,.inr ⟨_,HPF.out,HJX.out⟩⟩
  ·have hkl:k=rl:=(by omega);have htk:reductL (p.rules.take k) ms=reductL p.rules ms:=(by rw[hkl,HR0.out.len,List.take_length]);rw[htk]at hj
   obtain⟨HJ1,HBR,HKW,HM1,HR1,HKL,HTK,HSUB⟩:=Zq8 hj hBr hkw hM1 hR1 hkl htk hsub;clear hj hBr hkw hM1 hR1 hkl htk hsub
   gi_wp2_with fail;go_end0
   exact⟨⟨_,rfl⟩,.inl ⟨_,HJ1.out⟩⟩
open Go.RowKit Go.Shelf
attribute [local go_sem] Oper.semAt_some
theorem MemIn.keptM {A B:World}{a B0:Nat}{t:TypeId}{ms:LI}{M:LN}(h:MemIn A a ms)(hk:Kept M A B)(hb:Blk A B0 t #[.slice none 0 0])(hM:∀k∈M,k=B0∨A.heap.size≤k):MemIn B a ms:=by
 obtain⟨Bm,n,f,h1,h2,h3⟩:=h
 have ha:a∉M:=fun hm=>by
  rcases hM _ hm with rfl | h
  ·have:=hb.cell 0
   rw[h1]at this;simp at this
  ·have:=World.block_lt_of_cell? _ _ h1;simp at this;omega
 have hB:Bm∉M:=fun hm=>by
  obtain⟨D,⟨es,clock,hh,_⟩,_⟩:=h2
  rcases hM _ hm with rfl | h
  ·unfold Blk at hb;rw[hh]at hb;cases hb
  ·rw[Array.getElem?_eq_none h]at hh;cases hh
 refine⟨Bm,n,f,hk.cell h1 ha,?_,h3⟩
 obtain⟨D,⟨es,clock,hh,r1⟩,r2⟩:=h2
 exact⟨D,⟨es,clock,(hk.block _ (Array.getElem?_eq_some_iff.1 hh).1 hB).trans hh,r1⟩,r2⟩
theorem redOne_len (m:LI)(r:GRule)(h:r.head.length≤4000):(redOne m r).length≤4001:=by
 unfold redOne;split
 ·simp
 ·split
  ·rw[List.length_map];have:=List.length_filter_le (fun a=>decide (a∈m)) r.head;omega
  ·simp
theorem reductL_len (m:LI):∀(rs:LG),(∀r∈rs,r.head.length≤4000)→(reductL rs m).length≤4001*rs.length
 |[],_=>by simp[reductL]
 |r::t,h=>by
  have h1:=redOne_len m r (h r (by simp));have h2:=reductL_len m t fun x hx=>h x (by simp[hx]);have e:reductL (r::t) m=redOne m r++reductL t m:=by simp[reductL]
  rw[e,List.length_append,List.length_cons];omega
theorem inc_len {n:Int}{xs:LI}(h:incB n xs=true)(hn:n≤4000)(hn0:0≤n):xs.length≤4000:=by
 have hm:=inc_mem h
 have hp:xs.Pairwise (· < ·):=by
  have h0:ordGo n none xs=true:=by unfold incB ordB at h;simp only[Bool.and_eq_true]at h;exact h.1
  exact(ord_pair n xs none h0 (fun x hx=>(by have:=(hm x hx).1;omega)) (fun _ e=>by cases e)).1
 have:=nodup_len n.toNat xs (pair_nodup hp) (fun x hx=>by have:=hm x hx;omega)
 omega
theorem bX_at {X W:World}{b:Nat}{t:TypeId}{cs:Array Value}(h:Blk X b t cs)(hb:Below X.heap.size X W):Blk W b t cs∧b<W.heap.size:=⟨h.bel hb,(h.bel hb).lt⟩
theorem reduct_any (p:GProg)(nA:OA)(nl nc:Nat)(sA:OA)(sl sc:Nat)(rA:OA)(rl rc:Nat)(mA:OA)(ml mc:Nat)(xA:OA)(xl xc:Nat)(m:LI)(w:World)(hp:ProgIn w p nA nl nc sA sl sc rA rl rc mA ml mc)(hm:SlIs intR w xA xl xc m)(hv:checkE p m=0):
  Calls Tryz.prog 31 #[.agg #[.int .i64 p.n,.slice nA nl nc,.slice sA sl sc,.slice rA rl rc,.slice mA ml mc],.slice xA xl xc] w fun e w'=>∃(A:OA) (l c:Nat),e=.returned (.tuple #[.slice A l c,.int .i64 0])∧SlIs ruleR w' A l c (reductL p.rules m)∧Below w.heap.size w w':=by
 have cC:=fun W (hb:Below w.heap.size w W)=>check_any p nA nl nc sA sl sc rA rl rc mA ml mc xA xl xc m W (hp.ext hb) (hm.ext hb);have cM:=fun W (hb:Below w.heap.size w W)=>member_any xA xl xc m W (hm.ext hb);rw[hv]at cC;have hpi:=(checkE_is hv).1
 obtain⟨HP,HM,HV,CC,CM,HPI⟩:=Zq6 hp hm hv cC cM hpi;clear hp hm hv cC cM hpi
 refine(callsIn_wide (n:=5)).1 ?_
 refine callsIn_of_wp_marks Tryz.func31 rfl trivial ?_ rfl;simp only[Tryz.ntmps31,List.size_toArray,List.length_cons,List.length_nil,Nat.reduceAdd,Nat.reduceSub,Array.replicate_succ,Array.replicate_zero,List.push_toArray,List.append_toArray,List.nil_append,List.cons_append];gi_wp2_with fail
 refine⟨trivial,?_⟩
 refine(callsIn_wide.2 (CC.out _ (bel_alloc _ _))).mono ?_
 rintro e w1 ⟨rfl,hb1⟩;have hbx:=(Blk.new w 27 #[.int .i64 p.n,.slice nA nl nc,.slice sA sl sc,.slice rA rl rc,.slice mA ml mc]).bel hb1;have k0:w1.cell? ⟨w.heap.size,0,none⟩=some (.int .i64 p.n):=hbx.cell 0;have k1:w1.cell? ⟨w.heap.size,1,none⟩=some (.slice nA nl nc):=hbx.cell 1;have k2:w1.cell? ⟨w.heap.size,2,none⟩=some (.slice sA sl sc):=hbx.cell 2;have k3:w1.cell? ⟨w.heap.size,3,none⟩=some (.slice rA rl rc):=hbx.cell 3;have k4:w1.cell? ⟨w.heap.size,4,none⟩=some (.slice mA ml mc):=hbx.cell 4;have hl1:=hbx.lt;have HB1:=Zq1 (bel_trans (bel_alloc _ _) hb1);clear hb1;have HBX:=Zq1 hbx;clear hbx;gi_wp2_with fail;refine wpIn_wide.2 ?_;have hX:=bel_trans HB1.out (bel_alloc w1 (.cells #[.slice none 0 0] 24));have bX:=Blk.new w1 24 #[.slice none 0 0];have sX:(w1.alloc (.cells #[.slice none 0 0] 24)).heap.size=w1.heap.size+1:=(by simp);replace k0:=((bel_alloc w1 (.cells #[.slice none 0 0] 24)).cell (p:=⟨w.heap.size,0,none⟩) hl1).trans k0;replace k1:=((bel_alloc w1 (.cells #[.slice none 0 0] 24)).cell (p:=⟨w.heap.size,1,none⟩) hl1).trans k1;replace k2:=((bel_alloc w1 (.cells #[.slice none 0 0] 24)).cell (p:=⟨w.heap.size,2,none⟩) hl1).trans k2;replace k3:=((bel_alloc w1 (.cells #[.slice none 0 0] 24)).cell (p:=⟨w.heap.size,3,none⟩) hl1).trans k3;replace k4:=((bel_alloc w1 (.cells #[.slice none 0 0] 24)).cell (p:=⟨w.heap.size,4,none⟩) hl1).trans k4;generalize w1.alloc (.cells #[.slice none 0 0] 24)=X at *;have lX:w.heap.size<X.heap.size:=(by omega)
 obtain⟨HX,BX,SX⟩:=Zq3 hX bX sX;clear hX bX sX
 first
  |go_region_with (first
  | (go_at_call 72;refine(CM.out _ ?_).mono ?_;exact HX.out.drew;rintro e w2 ⟨a,rfl,hmi,hb2⟩;have HB2:=Zq1 hb2;have HMI:=Zq1 hmi;have k0':=(hb2.cell (p:=⟨w.heap.size,0,none⟩) lX).trans k0;have k1':=(hb2.cell (p:=⟨w.heap.size,1,none⟩) lX).trans k1;have k2':=(hb2.cell (p:=⟨w.heap.size,2,none⟩) lX).trans k2;have k3':=(hb2.cell (p:=⟨w.heap.size,3,none⟩) lX).trans k3;have k4':=(hb2.cell (p:=⟨w.heap.size,4,none⟩) lX).trans k4;clear hb2 hmi)
  | (go_at_call 71;refine(reduced_any p nA nl nc sA sl sc rA rl rc mA ml mc _ _).mono ?_;rintro e w3 ⟨rfl,rfl⟩))
  |fail
 all_goals
  have hd2:Below X.heap.size X w2:=(Below.refl _ _).drew.trans HB2.out;have a1:=(bX_at BX.out hd2);have a2:=hd2.size
  have hW:Blk ((w2.alloc (.cells #[.int .i64 p.n,.slice nA nl nc,.slice sA sl sc,.slice rA rl rc,.slice mA ml mc] 27)).alloc (.cells #[.func (.func 117) #[] #[.pointer (some ⟨a,0,none⟩)]] 103)) w2.heap.size 27 #[.int .i64 p.n,.slice nA nl nc,.slice sA sl sc,.slice rA rl rc,.slice mA ml mc] ∧
    Blk ((w2.alloc (.cells #[.int .i64 p.n,.slice nA nl nc,.slice sA sl sc,.slice rA rl rc,.slice mA ml mc] 27)).alloc (.cells #[.func (.func 117) #[] #[.pointer (some ⟨a,0,none⟩)]] 103)) (w2.heap.size+1) 103 #[.func (.func 117) #[] #[.pointer (some ⟨a,0,none⟩)]] ∧
    MemIn ((w2.alloc (.cells #[.int .i64 p.n,.slice nA nl nc,.slice sA sl sc,.slice rA rl rc,.slice mA ml mc] 27)).alloc (.cells #[.func (.func 117) #[] #[.pointer (some ⟨a,0,none⟩)]] 103)) a m ∧
    Blk ((w2.alloc (.cells #[.int .i64 p.n,.slice nA nl nc,.slice sA sl sc,.slice rA rl rc,.slice mA ml mc] 27)).alloc (.cells #[.func (.func 117) #[] #[.pointer (some ⟨a,0,none⟩)]] 103)) w1.heap.size 24 #[.slice none 0 0] ∧
    Below w.heap.size w ((w2.alloc (.cells #[.int .i64 p.n,.slice nA nl nc,.slice sA sl sc,.slice rA rl rc,.slice mA ml mc] 27)).alloc (.cells #[.func (.func 117) #[] #[.pointer (some ⟨a,0,none⟩)]] 103)) ∧
    ((w2.alloc (.cells #[.int .i64 p.n,.slice nA nl nc,.slice sA sl sc,.slice rA rl rc,.slice mA ml mc] 27)).alloc (.cells #[.func (.func 117) #[] #[.pointer (some ⟨a,0,none⟩)]] 103)).heap.size=w2.heap.size+1+1:=
   ⟨(blk_new rfl _ _).alloc _,blk_new (by simp) _ _,HMI.out.ext (bel_alloc2 _ _ _),(a1.1.alloc _).alloc _,bel_trans (bel_trans HX.out hd2) (bel_alloc2 _ _ _),by simp⟩
  have hw12:w1.heap.size+1≤w2.heap.size:=by have:=SX.out;omega
  clear a2 a1;have hww:w.heap.size<w1.heap.size:=hl1;gi_wp2_with fail;generalize (w2.alloc (.cells #[.int .i64 p.n,.slice nA nl nc,.slice sA sl sc,.slice rA rl rc,.slice mA ml mc] 27)).alloc (.cells #[.func (.func 117) #[] #[.pointer (some ⟨a,0,none⟩)]] 103)=W3 at *
  obtain⟨e1,e2,e3,e4,e5,e6⟩:=hW
  clear k0 k1 k2 k3 k4 k0' k1' k2' k3' k4'
  have hlen:(reductL p.rules m).length≤160040000:=by
   have h1:=reductL_len m p.rules fun r hr=>inc_len (HPI.out.rules r hr).head (HPI.out.rules r hr).n1 (HPI.out.rules r hr).n0;have h2:=HPI.out.few;omega
  refine wpIn_rangeM rfl (by omega) (gf:=115) (lb:=#[.pointer (some ⟨w2.heap.size,0,none⟩),.pointer (some ⟨w2.heap.size+1,0,none⟩)]) rfl trivial (enters_of Tryz.func115 (by kernel_rfl) rfl)
   (red1_iter 4 (by omega) p w2.heap.size (w2.heap.size+1) a (fun _=>undef) rA rl rc m [w1.heap.size] w W3 HP.out.rules e5 (fun q hq=>by simp at hq;omega)
    (fun M W hM hk=>⟨hk.cell (e1.cell 3) (fun hm=>by rcases hM _ hm with h | h;simp at h;omega;simp at h;omega),hk.cell (e2.cell 0) (fun hm=>by rcases hM _ hm with h | h;simp at h;omega;simp at h;omega),e3.keptM hk e4 (fun q hq=>by simpa using hM q hq)⟩)
    HPI.out.rules)
   (fun _ _ _ _ h=>h.size) (fun _ _ _ _ _ _ h hs hk=>h.go hs hk) (RI w w1.heap.size W3.heap.size) (fun _ _ _=>False)
   (fun _ _ _ _ h hb=>h.bel hb) (fun _ _ _ _ h _=>h) (fun _ _ _ _ _ hk0 h hn hk=>h.keep hn hk (Nat.le_trans e5.size hk0)) (fun _ _ _ _ _ _ h _ _=>h) (fun _ _ _ h=>h.cells)
   ⟨.slice none 0 0,[],rfl,e4,⟨World.ownsRow_nil _ _ _ _,fun i x hx=>by simp at hx⟩,e5,Nat.le_refl _⟩
   (fun x args a' W=>∃(Bx:Nat) (h b wt:Value),args=#[ruleV x h b wt]∧Blk W Bx 42 #[.bool x.choice,h,.bool x.sum,.int .i64 x.bound,b,wt]∧a'={ tmps:=#[.agg #[.int .i64 p.n,.slice nA nl nc,.slice sA sl sc,.slice rA rl rc,.slice mA ml mc],.slice xA xl xc,.pointer (some ⟨w.heap.size,0,none⟩),undef,.slice none 0 0,.int .i64 0,.int .i64 0,.pointer (some ⟨w1.heap.size,0,none⟩),.pointer (some ⟨Bx,0,none⟩),.agg #[.int .i64 p.n,.slice nA nl nc,.slice sA sl sc,.slice rA rl rc,.slice mA ml mc],.slice xA xl xc,.int .i64 0,.int .i64 0,.bool false,undef,.agg #[.int .i64 p.n,.slice nA nl nc,.slice sA sl sc,.slice rA rl rc,.slice mA ml mc],.slice xA xl xc,.func (.func 117) #[] #[.pointer (some ⟨a,0,none⟩)],.func (.func 115) #[] #[.pointer (some ⟨w2.heap.size,0,none⟩),.pointer (some ⟨w2.heap.size+1,0,none⟩)],ruleV x h b wt,undef,undef,undef,undef,undef],defers:=[] })
   (fun x args a' A B k h hn hk=>by
    obtain⟨Bx,hh,b,wt,h1,h2,h3⟩:=h
    exact⟨Bx,hh,b,wt,h1,hk.blk h2 (by have:=blk_ne h2 hn;simp;omega),h3⟩)
   ?assign ?body ?done ?stop
  case assign=>
   intro l M pre x args W K hi hg hK
   obtain⟨hA,hl,hc,bA,bl,bc,wA,wl,wc,rfl,hx,o1,o2,o3⟩:=hg
   obtain⟨HI,HX,O1,O2,O3,E1,E2,E3,E4,E5,E6⟩:=Zq11 hi hx o1 o2 o3 e1 e2 e3 e4 e5 e6;clear hi hx o1 o2 o3 e1 e2 e3 e4 e5 e6
   gi_wp2;exact hK _ _ (bel_alloc _ _) ⟨W.heap.size,_,_,_,rfl,Blk.new _ _ _,rfl⟩
  case body=>
   rintro l M pre x args a' W ⟨v,cs,rfl,hb,ho,hw,hbs⟩ hpf ⟨hA,hl,hc,bA,bl,bc,wA,wl,wc,rfl,hx,o1,o2,o3⟩ ⟨Bx,h,b,wt,he,bx,rfl⟩;simp at he
   obtain⟨rfl,rfl,rfl⟩:=he
   have hpl:pre.length<1099511627776:=(by have:=hpf.length_le;simp at this;omega)
   obtain⟨v',w4,hrun,hown,hg4,hat⟩:=appR ho.1 (.bool x.choice) (.slice hA hl hc) (.bool x.sum) (.int .i64 x.bound) (.slice bA bl bc) (.slice wA wl wc) (by simp[Value.oneCell']) hpl hbs 24
   obtain⟨g',cap',rfl,hgb,hgl⟩:=World.ownsRow.form hown (by omega)
   have hB0:w1.heap.size<W3.heap.size:=(by omega);have hro:some w1.heap.size≠v.ownBlock:=fun e=>by have:=(ho.1.lt _ e.symm).1;omega
   have hbl:=hb.lt;have hc0:W.cell? ⟨w1.heap.size,0,none⟩=some v:=hb.cell 0;have hc4:=(hg4.cell_far ⟨w1.heap.size,0,none⟩ hbl hro).trans hc0;have hf4:=(hg4.frozen_far ⟨w1.heap.size,0,none⟩ hbl hro).trans (hb.frozen 0);have x0:W.cell? ⟨Bx,0,none⟩=some (.bool x.choice):=bx.cell 0;have x1:W.cell? ⟨Bx,1,none⟩=some (.slice hA hl hc):=bx.cell 1;have x2:W.cell? ⟨Bx,2,none⟩=some (.bool x.sum):=bx.cell 2;have x3:W.cell? ⟨Bx,3,none⟩=some (.int .i64 x.bound):=bx.cell 3;have x4:W.cell? ⟨Bx,4,none⟩=some (.slice bA bl bc):=bx.cell 4;have x5:W.cell? ⟨Bx,5,none⟩=some (.slice wA wl wc):=bx.cell 5;have kV:Kept [w1.heap.size] w4 (w4.setCell ⟨w1.heap.size,0,none⟩ (.slice (some ⟨g',0,none⟩) (pre.length+1) cap')):=(Kept.refl _ _).set (.inl (by simp)) _;have kM:Kept (MOf w1.heap.size v) W (w4.setCell ⟨w1.heap.size,0,none⟩ (.slice (some ⟨g',0,none⟩) (pre.length+1) cap')):=((Kept.refl _ W).grown hg4 (fun q hq=>.inl (by unfold MOf;simp[hq]))).set (.inl (by simp[MOf])) _
   have hmV:∀k∈MOf w1.heap.size (.slice (some ⟨g',0,none⟩) (pre.length+1) cap'),k∈MOf w1.heap.size v∨W.heap.size≤k:=fun k hk=>by
    rcases MOf_mem hk with rfl | hv
    ·exact .inl (by simp[MOf])
    ·rcases hat k hv with h | h
     ·exact .inl (by unfold MOf;simp[h])
     ·exact .inr h
   have oV:=ownsRow_keptS hown kV (fun q hq hm=>by have:=(hown.lt q hq).1;simp at hm;omega);have rV:=ho.snoc hx o1 o2 o3 oV kM hmV;have bV:Blk (w4.setCell ⟨w1.heap.size,0,none⟩ (.slice (some ⟨g',0,none⟩) (pre.length+1) cap')) w1.heap.size 24 #[.slice (some ⟨g',0,none⟩) (pre.length+1) cap']:=(hb.grown hg4 hro).set_ 0 _
   have hwV:Below w.heap.size w (w4.setCell ⟨w1.heap.size,0,none⟩ (.slice (some ⟨g',0,none⟩) (pre.length+1) cap')):=Kept.below hw kM hw.size (fun q hq=>by
    rcases MOf_mem hq with rfl | hv
    ·omega
    ·have:=(ho.1.lt q hv).1;omega)
   have hsV:=kM.size;have hfin:RI w w1.heap.size W3.heap.size (MOf w1.heap.size (.slice (some ⟨g',0,none⟩) (pre.length+1) cap')) (pre++[x]) (w4.setCell ⟨w1.heap.size,0,none⟩ (.slice (some ⟨g',0,none⟩) (pre.length+1) cap')):=⟨_,_,rfl,bV,rV,hwV,by omega⟩
   obtain⟨HB,HO,HW,HPF,HX,O1,O2,O3,BX,HRUN,HOWN,HG4⟩:=Zq12 hb ho hw hpf hx o1 o2 o3 bx hrun hown hg4;clear hb ho hw hpf hx o1 o2 o3 bx hrun hown hg4
   obtain⟨HAT,HRO,KV,KM,HMV,OV,RV,BV,HWV,HFIN,E1,E2⟩:=Zq12 hat hro kV kM hmV oV rV bV hwV hfin e1 e2;clear hat hro kV kM hmV oV rV bV hwV hfin e1 e2
   obtain⟨E3,E4,E5,E6⟩:=Zq4 e3 e4 e5 e6;clear e3 e4 e5 e6
   gi_wp2_with (gi_at_builtin;refine wpListIn_append_run rfl _ _ _ rfl _ _ rfl rfl _ _ HRUN.out ?_)
   exact⟨_,HFIN.out,KM.out,HMV.out⟩
  case done=>
   intro D M W hD hi hdf
   obtain⟨v,cs,rfl,hb,ho,hw,hbs⟩:=hi
   have hn:∀o,W.heap[D]? = some o→o.isCells=false:=fun o h=>by rw[hdf]at h;cases h;rfl
   have hkD:=kept_putObj W D (.deferred none)
   obtain⟨A,c,rfl,hsl⟩:=(ho.keep hn hkD).sl (by omega)
   have hbf:Below w.heap.size w (W.putObj D (.deferred none)):=Kept.below hw hkD hw.size (fun q hq=>by simp at hq;have:=e5.size;omega);have hc0:=hb.cell 0;change W.cell? ⟨w1.heap.size,0,none⟩=some _ at hc0
   obtain⟨HB,HO,HW,HBS,HSL,HN,HKD,HBF,E1,E2,E3,E4⟩:=Zq12 hb ho hw hbs hsl hn hkD hbf e1 e2 e3 e4;clear hb ho hw hbs hsl hn hkD hbf e1 e2 e3 e4
   obtain⟨E5,E6⟩:=Zq2 e5 e6;clear e5 e6
   have HDF:=Zq1 hdf;clear hdf;gi_wp2_with fail
   refine⟨by simp,.inl ⟨_,_,rfl,run_takeDeferred HDF.out,?_⟩⟩
   exact⟨_,results_tmp2 rfl _ _ _,_,_,_,rfl,HSL.out,HBF.out⟩
  case stop=>
   intro D c pre W _ _ h;exact h.elim

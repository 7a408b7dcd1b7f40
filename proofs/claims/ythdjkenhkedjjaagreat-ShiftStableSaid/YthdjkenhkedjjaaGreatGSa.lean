/- GSa -/
import Derived.Test.YthdjkenhkedjjaaGreatGL
import Derived.Test.YthdjkenhkedjjaaGreatGS
import Derived.TacticsInMore
import Derived.LoopNIn
import Derived.LoopIn
import Derived.Shelf.Abstract
set_option maxRecDepth 100000
set_option maxHeartbeats 8000000
namespace Go.Proofs.YthdjkenhkedjjaaGreat
def djB (r:GRule):Bool:=!r.choice && decide (1<r.head.length)
def sfX (r:GRule)(x:Int):GRule:=⟨false,[x],true,r.bound,r.body,r.w⟩
def sfB (r:GRule)(x:Int):LI:=if r.sum then[x]else r.body
def sfO (r:GRule)(h:Int):LI:=(r.head.filter fun o=>!(o==h)).map fun o=>-o
def sfH (r:GRule)(x h:Int):GRule:=⟨false,[h],false,0,sfB r x++sfO r h,[]⟩
def sfU (r:GRule)(x:Int):LG:=if r.sum then[sfX r x]else[]
def sfRule (r:GRule)(x:Int):LG:=if djB r then sfU r x++r.head.map (sfH r x)else[r]
def sfN (r:GRule):Nat:=if djB r && r.sum then 1 else 0
def sfL:LG→Int→LG
 |[],_=>[]
 |r::t,n=>sfRule r (n+1)++sfL t (n+(sfN r:Int))
def sfC:LG→Nat
 |[]=>0
 |r::t=>sfN r+sfC t
theorem sfC_app (a b:LG):sfC (a++b)=sfC a+sfC b:=by
 induction a with
 |nil=>simp[sfC]
 |cons r t ih=>show sfN r+sfC (t++b)=sfN r+sfC t+sfC b;rw[ih];omega
theorem sfL_app (a b:LG)(n:Int):sfL (a++b) n=sfL a n++sfL b (n+(sfC a:Int)):=by
 induction a generalizing n with
 |nil=>simp[sfC,sfL]
 |cons r t ih=>show sfRule r (n+1)++sfL (t++b) (n+(sfN r:Int))=sfRule r (n+1)++sfL t (n+(sfN r:Int))++sfL b (n+((sfN r+sfC t:Nat):Int));rw[ih,List.append_assoc,show n+(sfN r:Int)+(sfC t:Int)=n+((sfN r+sfC t:Nat):Int) by omega]
theorem sfC_take {rs:LG}{k:Nat}{r:GRule}(h:rs[k]? = some r):sfC (rs.take (k+1))=sfC (rs.take k)+sfN r:=by
 rw[List.take_add_one,h,sfC_app];rfl
theorem sfL_take {rs:LG}{k:Nat}{r:GRule}(h:rs[k]? = some r)(n:Int):sfL (rs.take (k+1)) n=sfL (rs.take k) n++sfRule r (n+(sfC (rs.take k):Int)+1):=by
 rw[List.take_add_one,h,sfL_app];show _++(sfRule r _++sfL [] _)=_;rw[show sfL [] _=[] from rfl,List.append_nil]
theorem sfC_le (rs:LG)(k:Nat):sfC (rs.take k)≤sfC rs:=by
 have h:=sfC_app (rs.take k) (rs.drop k);rw[List.take_append_drop]at h;omega
theorem sfL_pre (rs:LG)(n:Int)(k:Nat):sfL (rs.take k) n <+: sfL rs n:=by
 have h:=sfL_app (rs.take k) (rs.drop k) n;rw[List.take_append_drop]at h
 exact⟨_,h.symm⟩
theorem sfN_le (r:GRule):sfN r≤1:=by unfold sfN;split <;> omega
theorem sfC_len:∀rs:LG,sfC rs≤rs.length
 |[]=>Nat.le_refl _
 |r::t=>by
  have h1:=sfN_le r;have h2:=sfC_len t;show sfN r+sfC t≤t.length+1;omega
theorem sfL_mem {x:GRule}:∀{rs:LG}{n:Int},x∈sfL rs n→∃r∈rs,∃k:Nat,k+sfN r≤sfC rs∧x∈sfRule r (n+(k:Int)+1)
 |[],_,h=>by cases h
 |r::t,n,h=>by
  unfold sfL at h;rcases List.mem_append.1 h with h | h
  ·exact⟨r,by simp,0,by show 0+sfN r≤sfN r+sfC t;omega,by simpa using h⟩
  ·obtain⟨q,hq,k,hk,hx⟩:=sfL_mem h
   refine⟨q,by simp[hq],sfN r+k,by show sfN r+k+sfN q≤sfN r+sfC t;omega,?_⟩
   rw[show n+((sfN r+k:Nat):Int)+1=n+(sfN r:Int)+(k:Int)+1 by omega];exact hx
theorem sfRule_len (r:GRule)(x:Int):(sfRule r x).length≤r.head.length+1:=by
 unfold sfRule sfU;split
 ·split
  ·rw[List.length_append,List.length_map];simp;omega
  ·simp
 ·simp
theorem sfL_len {N:Nat}:∀(rs:LG)(n:Int),(∀r∈rs,r.head.length≤N)→(sfL rs n).length≤(N+1)*rs.length
 |[],_,_=>by simp[sfL]
 |r::t,n,h=>by
  have h1:=sfRule_len r (n+1);have h2:=sfL_len t (n+(sfN r:Int)) fun x hx=>h x (by simp[hx]);have h3:=h r (by simp);unfold sfL;rw[List.length_append,List.length_cons,Nat.mul_add];omega
theorem dj_choice {r:GRule}(h:djB r=true):r.choice=false:=by
 unfold djB at h;simp only[Bool.and_eq_true,Bool.not_eq_true',decide_eq_true_eq]at h;exact h.1
theorem dj_len {r:GRule}(h:djB r=true):1<r.head.length:=by
 unfold djB at h;simp only[Bool.and_eq_true,Bool.not_eq_true',decide_eq_true_eq]at h;exact h.2
theorem sfO_mem {r:GRule}{h x:Int}:x∈sfO r h↔∃o∈r.head,o≠h∧x = -o:=by
 unfold sfO;simp only[List.mem_map,List.mem_filter,Bool.not_eq_true',beq_eq_false_iff_ne];constructor
 ·rintro⟨o,⟨h1,h2⟩,rfl⟩;exact⟨o,h1,h2,rfl⟩
 ·rintro⟨o,h1,h2,rfl⟩;exact⟨o,⟨h1,h2⟩,rfl⟩
open Go.RowKit
def IterC {α:Type}(Cs:LN)(E:World→Prop)(F:Fence)(m:Nat)(P:Program)(gf:Nat)(lb:Array Value)(Good:LN→α→Array Value→World→Prop)(xs:List α)(M0:LN)(w:World):Prop:=
 ∀(l:Nat) (J:LN→List α→World→Prop) (Jx:List α→World→Prop) (M:LN) (W:World),
  (∀M pre A B,J M pre A→Kept Cs A B→J M pre B)→(∀pre A B,Jx pre A→Kept Cs A B→Jx pre B)→(∀M pre A,J M pre A→∀k∈M,k<A.heap.size∧k∉Cs) →
  YieldM F (m-1) P l J Jx Good xs→J M [] W→Below w.heap.size w W→(∀k∈M,k∈M0∨w.heap.size≤k) →
  CallsIn F m P gf (#[.func (.yield l) #[] #[]]++lb) W fun e W'=>(∃v,e=.returned v)∧(((∃M',J M' xs W')∧E W')∨(∃pre,pre <+: xs∧Jx pre W'))
variable {F : Fence} {n : Nat} {P : Program}
theorem wpIn_rangeC {α:Type}{g:Operand}{ps:Array Tmp}{assign body:Code}{Q:Exit→Act→World→Prop}{a:Act}{w:World}
  (hro:F.round=none) (h1:1≤n) {gf:Nat} {lb:Array Value} (hg:a.eval g=.func (.func gf) #[] lb) (hFg:F.fn gf) (eg:∀args w,(callFunc gf args).run P w=.ok (.enter gf args) w)
  {Good:LN→α→Array Value→World→Prop} {xs:List α} {M0:LN} {Cs:LN} {E:World→Prop} (hCw:∀k∈Cs,k<w.heap.size) (hE:∀A B k,w.heap.size≤k→E A→(∀o,A.heap[k]? = some o→o.isCells=false)→Kept [k] A B→E B) (hit:IterC Cs E F (n-1) P gf lb Good xs M0 w)
  (hps:∀M x args W,Good M x args W→args.size=ps.size)
  (hG:∀M M1 x args A B,Good M x args A→(∀k∈M1,k∈M)→Kept M A B→Good M1 x args B)
  (I:LN→List α→World→Prop) (Ix:Code→List α→World→Prop)
  (hIb:∀M pre A B,I M pre A→Kept Cs A B→I M pre B) (hIxb:∀c pre A B,Ix c pre A→Kept Cs A B→Ix c pre B)
  (hI:∀M pre A B k,w.heap.size≤k→I M pre A→(∀o,A.heap[k]? = some o→o.isCells=false)→Kept [k] A B→I M pre B)
  (hIx:∀c pre A B k,w.heap.size≤k→Ix c pre A→(∀o,A.heap[k]? = some o→o.isCells=false)→Kept [k] A B→Ix c pre B)
  (hIM:∀M pre W,I M pre W→∀k∈M,k∉Cs∧∃o,W.heap[k]? = some o∧o.isCells=true)
  (h0:I M0 [] w) (Ax:α→Array Value→Act→World→Prop)
  (hAx:∀x args a' A B k,Ax x args a' A→(∀o,A.heap[k]? = some o→o.isCells=false)→Kept [k] A B→Ax x args a' B)
  (hassign:∀(l:Nat) (M:LN) (pre:List α) (x:α) (args:Array Value) (W:World) (K:Act→World→Prop),I M pre W→Good M x args W→(∀a' W',Below W.heap.size W W'→Ax x args a' W'→K a' W') →
   assign.wpIn (F.inRound l) (n-1-1) P (Exit.then K (fun _ _ _=>False)) { tmps:=(ps.zip args).foldl (fun t (p,v)=>t.setIfInBounds p v) a.tmps,defers:=[] } W)
  (hbody:∀(l:Nat) (M:LN) (pre:List α) (x:α) (args:Array Value) (a':Act) (W:World),I M pre W→pre++[x] <+: xs→Good M x args W→Ax x args a' W→body.wpIn (F.inRound l) (n-1-1) P (postM I Ix M (pre++[x]) W) a' W)
  (hdone:∀(D:Nat) (M:LN) (W:World),w.heap.size≤D→I M xs W→E W→W.heap[D]? = some (.deferred (some []))→Q .normal { a with defers:={ target:=.collected D,args:=#[] }::a.defers } W)
  (hstop:∀(D:Nat) (c:Code) (pre:List α) (W:World),w.heap.size≤D→pre <+: xs→Ix c pre W→W.heap[D]? = some (.deferred (some []))→c.wpIn F n P Q { a with defers:={ target:=.collected D,args:=#[] }::a.defers } W):
  (Code.rangeFunc g ps assign body).wpIn F n P Q a w:=by
 refine wpIn_rangeFunc ?_;intro fn hfn;rw[hro]
 obtain⟨rec,hrec⟩:∃rec:LoopState→Option Code→Loop,rec=fun st pe=>{ state:=st,pending:=pe,fn,tmps:=a.tmps,params:=ps,assign,body,defers:=w.heap.size }:=⟨_,rfl⟩
 obtain⟨W1,hW1⟩:∃W1,(w.alloc (.deferred (some []))).alloc (.loop (rec .ready none))=W1:=⟨_,rfl⟩
 have hL1:W1.heap[w.heap.size+1]? = some (.loop (rec .ready none)):=by
  rw[← hW1];have:=World.alloc_heap_new (w.alloc (.deferred (some []))) (.loop (rec .ready none));rwa [World.size_alloc]at this
 have hK1:W1.heap[w.heap.size]? = some (.deferred (some [])):=by
  rw[← hW1];exact(Below.heap_alloc _ _ _ (by simp)).trans (World.alloc_heap_new w _)
 have hbw:Below w.heap.size w W1:=by rw[← hW1];exact((Below.refl _ w).alloc (Nat.le_refl _) _).alloc (by simp) _
 have hI1:I M0 [] W1:=hIb _ _ _ _ h0 (Kept.of_below hbw _);have hl1C:w.heap.size+1∉Cs:=fun hm=>by have:=hCw _ hm;omega
 have hl0C:w.heap.size∉Cs:=fun hm=>by have:=hCw _ hm;omega
 refine⟨w.heap.size+1,[{ target:=.collected w.heap.size,args:=#[] }],W1,{ target:=.fn (.func gf) lb,args:=#[.func (.yield (w.heap.size+1)) #[] #[]] },W1,gf,
  #[.func (.yield (w.heap.size+1)) #[] #[]]++lb,W1,?_,?_,?_,?_,fun _=>h1,?_⟩
 ·rw[← hW1,hrec];exact run_enterLoop_outer _ _ _ _ _
 ·simp only[resolve,hg];simp[go_sem]
 ·intro f' hf';simp[Target.leads]at hf';subst hf';exact hFg
 ·simp[invoke,go_sem,eg]
 ·refine(hit (w.heap.size+1)
   (fun M pre W=>∃M1,M=(w.heap.size+1)::M1∧I M1 pre W∧W.heap[w.heap.size+1]? = some (.loop (rec .ready none))∧W.heap[w.heap.size]? = some (.deferred (some [])))
   (fun pre W=>∃c,Ix c pre W∧W.heap[w.heap.size+1]? = some (.loop (rec .done (some c)))∧W.heap[w.heap.size]? = some (.deferred (some [])))
   ((w.heap.size+1)::M0) W1
   (fun M pre A B hs hb=>by
    obtain⟨M1,rfl,hi,hl,hk⟩:=hs
    exact⟨M1,rfl,hIb _ _ _ _ hi hb,(hb.block _ (Array.getElem?_eq_some_iff.1 hl).1 hl1C).trans hl,(hb.block _ (Array.getElem?_eq_some_iff.1 hk).1 hl0C).trans hk⟩)
   (fun pre A B hs hb=>by
    obtain⟨c,hc,hl,hk⟩:=hs
    exact⟨c,hIxb _ _ _ _ hc hb,(hb.block _ (Array.getElem?_eq_some_iff.1 hl).1 hl1C).trans hl,(hb.block _ (Array.getElem?_eq_some_iff.1 hk).1 hl0C).trans hk⟩)
   (fun M pre A hs k hk=>by
    obtain⟨M1,rfl,hi,hl,hkk⟩:=hs
    rcases List.mem_cons.1 hk with rfl | hk
    ·exact⟨(Array.getElem?_eq_some_iff.1 hl).1,hl1C⟩
    ·obtain⟨hc,o,ho,_⟩:=hIM _ _ _ hi k hk
     exact⟨(Array.getElem?_eq_some_iff.1 ho).1,hc⟩)
   ?_ ⟨M0,rfl,hI1,hL1,hK1⟩ hbw (fun k hk=>by
    rcases List.mem_cons.1 hk with rfl | hk
    ·exact .inr (by omega)
    ·exact .inl hk)).mono ?_
  ·rintro M pre x args W ⟨M1,rfl,hi,hl,hk⟩ hpf hgd;have hy:=run_yield (P:=P) (args:=args) hl (by rw[hrec];exact hps _ _ _ _ hgd);rw[hrec]at hy;have hgd1:=hG _ M1 _ _ _ _ hgd (fun k hk=>List.mem_cons_of_mem _ hk) (Kept.refl _ _)
   refine⟨fn,_,assign,body,hy,roundIn_of_wpIn hfn (hassign _ M1 pre x args W _ hi hgd1 ?_)⟩
   clear hy;intro a' Wa hba hax;have hla:=(hba.block _ (Array.getElem?_eq_some_iff.1 hl).1).trans hl;have hka:=(hba.block _ (Array.getElem?_eq_some_iff.1 hk).1).trans hk;have hia:=hIb _ _ _ _ hi (Kept.of_below hba _);have hlt:w.heap.size+1<Wa.heap.size:=(Array.getElem?_eq_some_iff.1 hla).1
   refine⟨_,run_beginRound hla (by rw[hrec]),?_⟩
   obtain⟨Wb,hWb⟩:∃Wb,Wa.putObj (w.heap.size+1) (.loop { rec .ready none with state:=.busy })=Wb:=⟨_,rfl⟩
   have hkb:Kept [w.heap.size+1] Wa Wb:=(by rw[← hWb];exact kept_putObj _ _ _);have hlb:Wb.heap[w.heap.size+1]? = some (.loop { rec .ready none with state:=.busy }):=(by rw[← hWb];exact World.putObj_heap_same hlt);have hdb:Wb.heap[w.heap.size]? = some (.deferred (some [])):=(by rw[← hWb];exact(World.putObj_heap_other (by omega)).trans hka);have hnc:∀o,Wa.heap[w.heap.size+1]? = some o→o.isCells=false:=fun o ho=>by rw[hla]at ho;cases ho;rfl
   have hib:=hI _ _ _ _ _ (by omega) hia hnc hkb;have hgb:=hG _ M1 _ _ _ _ hgd (fun k hk=>List.mem_cons_of_mem _ hk) ((Kept.of_below hba _).trans (hkb.more (T:=(w.heap.size+1)::M1) (fun k hk=>by simp at hk;simp[hk])));rw[hWb];refine wpIn_mono (hbody _ M1 pre x args a' Wb hib hpf hgb (hAx _ _ _ _ _ _ hax hnc hkb)) ?_
   have hlM:w.heap.size+1∉M1:=fun hm=>by
    obtain⟨_,o,ho,hc⟩:=hIM _ _ _ hi _ hm
    rw[hl]at ho;cases ho;cases hc
   have hdM:w.heap.size∉M1:=fun hm=>by
    obtain⟨_,o,ho,hc⟩:=hIM _ _ _ hi _ hm
    rw[hk]at ho;cases ho;cases hc
   have fin:∀(jump:Option Code) (W3:World),Kept M1 Wb W3 →
     (Instr.endRound (w.heap.size+1) jump).run P W3=.ok (.bool jump.isNone) (W3.putObj (w.heap.size+1) (.loop (rec (if jump.isNone then .ready else .done) jump))) ∧
     W3.heap[w.heap.size+1]? = some (.loop { rec .ready none with state:=.busy }) ∧
     (W3.putObj (w.heap.size+1) (.loop (rec (if jump.isNone then .ready else .done) jump))).heap[w.heap.size+1]? = some (.loop (rec (if jump.isNone then .ready else .done) jump)) ∧
     (W3.putObj (w.heap.size+1) (.loop (rec (if jump.isNone then .ready else .done) jump))).heap[w.heap.size]? = some (.deferred (some [])):=fun jump W3 hk3=>by
    have hl3:=(hk3.block _ (Array.getElem?_eq_some_iff.1 hlb).1 hlM).trans hlb;have hd3:=(hk3.block _ (Array.getElem?_eq_some_iff.1 hdb).1 hdM).trans hdb
    have:=run_endRound (P:=P) jump hl3
    rw[hrec]at this ⊢
    exact⟨this,by rw[hrec]at hl3;exact hl3,World.putObj_heap_same (Array.getElem?_eq_some_iff.1 hl3).1,(World.putObj_heap_other (by omega)).trans hd3⟩
   have lv:∀(c:Code) (W3:World),Ix c (pre++[x]) W3→Kept M1 Wb W3→∃v w',(Instr.endRound (w.heap.size+1) (some c)).run P W3=.ok v w' ∧
     ((Ending.returned v=.returned (.bool true)∧∃M',(∃M1',M'=(w.heap.size+1)::M1'∧I M1' (pre++[x]) w'∧w'.heap[w.heap.size+1]? = some (.loop (rec .ready none))∧w'.heap[w.heap.size]? = some (.deferred (some [])))∧Kept ((w.heap.size+1)::M1) W w'∧(∀k∈M',k∈(w.heap.size+1)::M1∨W.heap.size≤k)) ∨
      (Ending.returned v=.returned (.bool false)∧∃c,Ix c (pre++[x]) w'∧w'.heap[w.heap.size+1]? = some (.loop (rec .done (some c)))∧w'.heap[w.heap.size]? = some (.deferred (some [])))):=fun c W3 hx hk3=>by
    obtain⟨hr,hl3,hl4,hk4⟩:=fin (some c) W3 hk3
    exact⟨_,_,hr,.inr ⟨rfl,c,hIx _ _ _ _ _ (by omega) hx (fun o ho=>by rw[hl3]at ho;cases ho;rfl) (kept_putObj _ _ _),hl4,hk4⟩⟩
   rintro e a3 W3 hp
   cases e with
   |normal=>
    obtain⟨M',hi3,hk3,hm3⟩:=hp
    obtain⟨hr,hl3,hl4,hk4⟩:=fin none W3 hk3
    have hkf:Kept ((w.heap.size+1)::M1) W (W3.putObj (w.heap.size+1) (.loop (rec .ready none))):=
     (((Kept.of_below hba _).trans (hkb.more (fun k hk=>by simp at hk;simp[hk]))).trans (hk3.more (fun k hk=>List.mem_cons_of_mem _ hk))).trans ((kept_putObj _ _ _).more (fun k hk=>by simp at hk;simp[hk]))
    refine⟨_,_,hr,.inl ⟨rfl,(w.heap.size+1)::M',⟨M',rfl,hI _ _ _ _ _ (by omega) hi3 (fun o ho=>by rw[hl3]at ho;cases ho;rfl) (kept_putObj _ _ _),hl4,hk4⟩,hkf,fun k hk=>?_⟩⟩
    rcases List.mem_cons.1 hk with rfl | hk
    ·exact .inl (by simp)
    ·rcases hm3 k hk with h | h
     ·exact .inl (List.mem_cons_of_mem _ h)
     ·exact .inr (Nat.le_trans (Nat.le_trans hba.size hkb.size) h)
   |ret=>exact lv _ _ hp.1 hp.2
   |exit id=>exact lv _ _ hp.1 hp.2
   |goto t=>exact lv _ _ hp.1 hp.2
   |panic ch=>exact hp.elim
   |outgrown=>exact hp.elim
  ·rintro e W2 ⟨⟨v,rfl⟩,(⟨⟨M',M1,_,hi,hl,hk⟩,hEe⟩ | ⟨pre,hpre,c,hi,hl,hk⟩)⟩
   ·exact⟨none,_,by have:=run_endLoop (P:=P) hl (by rw[hrec];simp);rw[hrec]at this;exact this,hdone _ M1 _ (Nat.le_refl _) (hI _ _ _ _ _ (by omega) hi (fun o ho=>by rw[hl]at ho;cases ho;rfl) (kept_putObj _ _ _)) (hE _ _ _ (by omega) hEe (fun o ho=>by rw[hl]at ho;cases ho;rfl) (kept_putObj _ _ _)) ((World.putObj_heap_other (by omega)).trans hk)⟩
   ·exact⟨some c,_,by have:=run_endLoop (P:=P) hl (by rw[hrec];simp);rw[hrec]at this;exact this,hstop _ c pre _ (Nat.le_refl _) hpre (hIx _ _ _ _ _ (by omega) hi (fun o ho=>by rw[hl]at ho;cases ho;rfl) (kept_putObj _ _ _)) ((World.putObj_heap_other (by omega)).trans hk)⟩
open Go.RowKit Go.Shelf
attribute [local go_sem] Oper.semAt_some
theorem counter_any (n:Int)(w:World):
  Calls Tryz.prog 60 #[.int .i64 n] w fun e w'=>e=.returned (.func (.func 100) #[] #[.pointer (some ⟨w.heap.size,0,none⟩)])∧w'=w.alloc (.cells #[.int .i64 n] 3):=by
 go_enter Tryz.func60,Tryz.ntmps60;go_wp2;go_ret
 exact⟨rfl,rfl⟩
theorem counter1_any (c:Nat)(n:Int)(w:World)(hb:Blk w c 3 #[.int .i64 n])(h0:0≤n)(h1:n≤1000000):
  Calls Tryz.prog 100 #[.pointer (some ⟨c,0,none⟩)] w fun e w'=>e=.returned (.int .i64 (n+1))∧w'=w.setCell ⟨c,0,none⟩ (.int .i64 (n+1)):=by
 have c0:w.cell? ⟨c,0,none⟩=some (.int .i64 n):=hb.cell 0;have z0:w.frozen? ⟨c,0,none⟩=false:=hb.frozen 0;have e1:IntKind.i64.wrap (n+1)=n+1:=IntWalk.i64_in _ (by omega);have c1:(w.setCell ⟨c,0,none⟩ (.int .i64 (n+1))).cell? ⟨c,0,none⟩=some (.int .i64 (n+1)):=(hb.set_ 0 (.int .i64 (n+1))).cell 0;have HB:=Zq1 hb;clear hb;go_enter Tryz.func100,Tryz.ntmps100;go_wp2_with fail;go_ret
 exact⟨rfl,rfl⟩
theorem dj_any (r:GRule)(hA:OA)(hl hc:Nat)(bA:OA)(bl bc:Nat)(wA:OA)(wl wc:Nat)(w:World)(hr:RuleIn w r hA hl hc bA bl bc wA wl wc):
  Calls Tryz.prog 85 #[.agg #[.bool r.choice,.slice hA hl hc,.bool r.sum,.int .i64 r.bound,.slice bA bl bc,.slice wA wl wc]] w fun e w'=>e=.returned (.bool (djB r))∧Below w.heap.size w w':=by
 have hl0:=hr.head.len
 have hd:djB r=(!r.choice && decide (1<(hl:Int))):=by
  unfold djB;rw[← hl0]
  congr 1
  rw[Bool.eq_iff_iff,decide_eq_true_eq,decide_eq_true_eq];omega
 rw[hd];clear hd
 obtain⟨HR,HL0⟩:=Zq2 hr hl0;clear hr hl0
 cases r.choice with
 |true=>
  go_enter Tryz.func85,Tryz.ntmps85;go_wp2_with fail;go_ret
  exact⟨rfl,bel_alloc _ _⟩
 |false=>
  go_enter Tryz.func85,Tryz.ntmps85;go_wp2_with fail;go_ret
  exact⟨by simp,bel_alloc _ _⟩
theorem shifted_any (r:GRule)(hA:OA)(hl hc:Nat)(bA:OA)(bl bc:Nat)(wA:OA)(wl wc:Nat)(c:Nat)(w:World):
  Calls Tryz.prog 61 #[.agg #[.bool r.choice,.slice hA hl hc,.bool r.sum,.int .i64 r.bound,.slice bA bl bc,.slice wA wl wc],.func (.func 100) #[] #[.pointer (some ⟨c,0,none⟩)]] w fun e w'=>e=.returned (.func (.func 101) #[] #[.pointer (some ⟨w.heap.size,0,none⟩),.pointer (some ⟨w.heap.size+1,0,none⟩)]) ∧
   w'=(w.alloc (.cells #[.bool r.choice,.slice hA hl hc,.bool r.sum,.int .i64 r.bound,.slice bA bl bc,.slice wA wl wc] 42)).alloc (.cells #[.func (.func 100) #[] #[.pointer (some ⟨c,0,none⟩)]] 88):=by
 go_enter Tryz.func61,Tryz.ntmps61;go_wp2;go_ret
 exact⟨rfl,rfl⟩
open Go.RowKit Go.Shelf
attribute [local go_sem] Oper.semAt_some
theorem sfRule_step {r:GRule}{x:Int}{j:Nat}{h:Int}(hd:djB r=true)(hj:r.head[j]? = some h):sfU r x++(r.head.take (j+1)).map (sfH r x)=sfU r x++(r.head.take j).map (sfH r x)++[sfH r x h]∧sfU r x++(r.head.take j).map (sfH r x)++[sfH r x h] <+: sfRule r x:=by
 have e:sfU r x++(r.head.take (j+1)).map (sfH r x)=sfU r x++(r.head.take j).map (sfH r x)++[sfH r x h]:=by
  rw[List.take_add_one,hj,List.map_append,List.append_assoc];rfl
 refine⟨e,?_⟩
 rw[← e];unfold sfRule;rw[if_pos hd,List.prefix_append_right_inj]
 exact(List.take_prefix _ _).map _
theorem sfO_step {l:LI}{i:Nat}{o h:Int}(hi:l[i]? = some o):((l.take (i+1)).filter fun o=>!(o==h)).map (fun o=>-o)=((l.take i).filter fun o=>!(o==h)).map (fun o=>-o)++(if o=h then[]else[-o]):=by
 rw[List.take_add_one,hi,List.filter_append,List.map_append]
 congr 1
 by_cases e:o=h <;> simp[e]
structure ShB (wr:World)(B g:Nat)(h:Int)(hs:Value)(xs:LI)(A:OA)(l c:Nat)(W:World):Prop where
 own:OwnB intR 3 wr B W (.slice A l c) xs
 len:l=xs.length
 box:Blk W g 42 #[.bool false,hs,.bool false,.int .i64 0,.slice A l c,.slice none 0 0]
 ne:(Value.slice A l c).ownBlock≠some g
 bel:Below wr.heap.size wr W
 hd:Blk W wr.heap.size 3 #[.int .i64 h]
theorem shift1_iter (m:Nat)(hm:1≤m)(r:GRule)(hA:OA)(hl hc:Nat)(bA:OA)(bl bc:Nat)(wA:OA)(wl wc:Nat)(n0 x0:Int)(br bf cn:Nat)(M0:LN)(v0 w:World)(hr0:RuleIn v0 r hA hl hc bA bl bc wA wl wc)(hri:RuleIs r n0)(hb0:Below v0.heap.size v0 w)(hM0:∀q∈M0,v0.heap.size≤q∧q≠br∧q≠bf)
  (hbr:Blk w br 42 #[.bool r.choice,.slice hA hl hc,.bool r.sum,.int .i64 r.bound,.slice bA bl bc,.slice wA wl wc]) (hbf:Blk w bf 88 #[.func (.func 100) #[] #[.pointer (some ⟨cn,0,none⟩)]]) (hcn:Blk w cn 3 #[.int .i64 x0]) (h0:0≤x0) (h1:x0≤8000) (hc0:v0.heap.size≤cn) (hbn:br≠cn∧bf≠cn):
  IterC [cn] (fun W=>Blk W cn 3 #[.int .i64 (x0+(sfN r:Int))]) Fence.wide m Tryz.prog 101 #[.pointer (some ⟨br,0,none⟩),.pointer (some ⟨bf,0,none⟩)] (fun M=>GoodR (cn::M)) (sfRule r (x0+1)) M0 w:=by
 intro l J Jx M W hJ hJx hJM hY hj0 hbw hM;refine callsIn_of_wp Tryz.func101 rfl trivial ?_ rfl;simp only[Tryz.ntmps101,List.size_toArray,List.length_cons,List.length_nil,Nat.reduceAdd,Nat.reduceSub,Array.replicate_succ,Array.replicate_zero,List.push_toArray,List.append_toArray,List.nil_append,List.cons_append]
 obtain⟨x,hx⟩:∃x,x=x0+1:=⟨_,rfl⟩
 rw[← hx]at hY ⊢
 -- what lies unchanged as long as only the row's blocks and the counter are written
 have hres:∀Ms W,(∀q∈Ms,q∈M0∨w.heap.size≤q)→Kept (cn::Ms) w W→RuleIn W r hA hl hc bA bl bc wA wl wc∧Blk W br 42 #[.bool r.choice,.slice hA hl hc,.bool r.sum,.int .i64 r.bound,.slice bA bl bc,.slice wA wl wc]∧Blk W bf 88 #[.func (.func 100) #[] #[.pointer (some ⟨cn,0,none⟩)]]:=fun Ms W h1 h2=>by
  have hB:Below v0.heap.size v0 W:=Kept.below hb0 h2 hb0.size (fun q hq=>by
   rcases List.mem_cons.1 hq with rfl | hq
   ·exact hc0
   ·rcases h1 q hq with h | h
    ·exact(hM0 q h).1
    ·exact Nat.le_trans hb0.size h)
  have l1:=hbr.lt;have l2:=hbf.lt
  refine⟨hr0.ext hB,h2.blk hbr fun hq=>?_,h2.blk hbf fun hq=>?_⟩
  ·rcases List.mem_cons.1 hq with e | hq
   ·exact hbn.1 e
   ·rcases h1 _ hq with h | h
    ·exact(hM0 _ h).2.1 rfl
    ·omega
  ·rcases List.mem_cons.1 hq with e | hq
   ·exact hbn.2 e
   ·rcases h1 _ hq with h | h
    ·exact(hM0 _ h).2.2 rfl
    ·omega
 have hoff:∀Ms,(∀q∈Ms,q∈M0∨w.heap.size≤q)→Off (cn::Ms) hA hl∧Off (cn::Ms) bA bl∧Off (cn::Ms) wA wl:=fun Ms h=>by
  have hq:∀q∈cn::Ms,v0.heap.size≤q:=fun q hq=>by
   rcases List.mem_cons.1 hq with rfl | hq
   ·exact hc0
   rcases h q hq with h | h
   ·exact(hM0 q h).1
   ·exact Nat.le_trans hb0.size h
  exact⟨fun z ad e hm=>by have:=hr0.head.blk_lt z e;have:=hq _ hm;omega,fun z ad e hm=>by have:=hr0.body.blk_lt z e;have:=hq _ hm;omega,fun z ad e hm=>by have:=hr0.wt.blk_lt z e;have:=hq _ hm;omega⟩
 obtain⟨hrW,bR,bF⟩:=hres M W hM (Kept.of_below hbw _)
 have hcW:=hcn.bel hbw;have hcl:=hcn.lt;have hcap:=hr0.head.cap;have hmax:=hr0.head.max;have hlen:=hr0.head.len;have cD:=fun V (hb:Below W.heap.size W V)=>dj_any r hA hl hc bA bl bc wA wl wc V (hrW.ext hb)
 obtain⟨HJ',HJX',HY',HRES,HOFF⟩:=Zq5 hJ hJx hY hres hoff;clear hJ hJx hY hres hoff
 have r0:W.cell? ⟨br,0,none⟩=some (.bool r.choice):=bR.cell 0;have r1:W.cell? ⟨br,1,none⟩=some (.slice hA hl hc):=bR.cell 1;have r2:W.cell? ⟨br,2,none⟩=some (.bool r.sum):=bR.cell 2;have r3:W.cell? ⟨br,3,none⟩=some (.int .i64 r.bound):=bR.cell 3;have r4:W.cell? ⟨br,4,none⟩=some (.slice bA bl bc):=bR.cell 4;have r5:W.cell? ⟨br,5,none⟩=some (.slice wA wl wc):=bR.cell 5;have f0:W.cell? ⟨bf,0,none⟩=some (.func (.func 100) #[] #[.pointer (some ⟨cn,0,none⟩)]):=bF.cell 0
 obtain⟨HR0,HRI,HB0,HM0,HBR,HBF,HCN,HBW,HM,HJ0,HRW,BR⟩:=Zq12 hr0 hri hb0 hM0 hbr hbf hcn hbw hM hj0 hrW bR;clear hr0 hri hb0 hM0 hbr hbf hcn hbw hM hj0 hrW bR
 obtain⟨BF,HCW,CD,HJM,HCL,HX,HBN,HC0,HLEN⟩:=Zq9 bF hcW cD hJM hcl hx hbn hc0 hlen;clear bF hcW cD hJM hcl hx hbn hc0 hlen
 gi_wp2_with fail
 refine⟨trivial,?_⟩
 refine(callsIn_wide.2 (CD.out _ (Below.refl _ _))).mono ?_
 rintro e w1 ⟨rfl,hb1⟩;have hj1:=HJ'.out _ _ _ _ HJ0.out (Kept.of_below hb1 _);have kW1:Kept (cn::M) w w1:=(Kept.of_below HBW.out _).bel hb1;have bw1:Below w.heap.size w w1:=bel_trans HBW.out hb1;have hM1C:∀q∈M,q≠cn:=fun q hq e=>by have:=(HJM.out _ _ _ HJ0.out q hq).2;simp[e]at this
 obtain⟨hr1,bR1,bF1⟩:=HRES.out M w1 HM.out kW1
 have cW1:=HCN.out.bel bw1;have hcnM:cn∉M:=fun hq=>hM1C _ hq rfl;have hnn:=HRI.out.n0;have hbl8:r.body.length≤8000:=by have:=ordB_len HRI.out.n0 HRI.out.body;have:=HRI.out.n1;omega
 clear r0 r1 r2 r3 r4 r5 f0
 cases hd:djB r with
 |false=>
  have e1:sfRule r x=[r]:=by unfold sfRule;rw[hd];rfl
  have e2:sfN r=0:=by unfold sfN;rw[hd];rfl
  obtain⟨o1,o2,o3⟩:=HOFF.out M HM.out
  have hgd:GoodR (cn::M) r #[.agg #[.bool r.choice,.slice hA hl hc,.bool r.sum,.int .i64 r.bound,.slice bA bl bc,.slice wA wl wc]] w1:=⟨hA,hl,hc,bA,bl,bc,wA,wl,wc,rfl,hr1,o1,o2,o3⟩;have hpf:([]:LG)++[r] <+: sfRule r x:=by rw[e1];simp
  obtain⟨fn,tmps,assign,body,hyy,hRd⟩:=HY'.out M [] r _ w1 hj1 hpf hgd
  have r0:w1.cell? ⟨br,0,none⟩=some (.bool r.choice):=bR1.cell 0;have r1:w1.cell? ⟨br,1,none⟩=some (.slice hA hl hc):=bR1.cell 1;have r2:w1.cell? ⟨br,2,none⟩=some (.bool r.sum):=bR1.cell 2;have r3:w1.cell? ⟨br,3,none⟩=some (.int .i64 r.bound):=bR1.cell 3;have r4:w1.cell? ⟨br,4,none⟩=some (.slice bA bl bc):=bR1.cell 4;have r5:w1.cell? ⟨br,5,none⟩=some (.slice wA wl wc):=bR1.cell 5
  obtain⟨HJ1,KW1,BW1,HM1C,HR1,BR1,BF1,CW1,HGD,E1,E2,HCNM⟩:=Zq12 hj1 kW1 bw1 hM1C hr1 bR1 bF1 cW1 hgd e1 e2 hcnM;clear hj1 kW1 bw1 hM1C hr1 bR1 bF1 cW1 hgd e1 e2 hcnM
  obtain⟨HPF,HB1⟩:=Zq2 hpf hb1;clear hpf hb1
  gi_wp2_with fail;refine hRd.mono ?_;rintro e W4 (⟨rfl,M2,hj4,hk4,hm4⟩ | ⟨rfl,hjx⟩)
  ·have hcb:=hk4.blk CW1.out HCNM.out
   obtain⟨HJ4,HK4,HM4,HCB⟩:=Zq4 hj4 hk4 hm4 hcb;clear hj4 hk4 hm4 hcb
   gi_wp2_with fail;refine bodyPost_ret (results_none rfl _ _ _) rfl ?_
   exact⟨⟨_,rfl⟩,.inl ⟨⟨_,by rw[E1.out];exact HJ4.out⟩,by rw[E2.out];simpa using HCB.out⟩⟩
  ·
   have HJX2:=Zq1 hjx;clear hjx;gi_wp2_with fail;refine bodyPost_ret (results_none rfl _ _ _) rfl ?_
   exact⟨⟨_,rfl⟩,.inr ⟨_,HPF.out,HJX2.out⟩⟩
 |true=>
  have hch:=dj_choice hd;have hlen2:=dj_len hd
  by_cases hs:r.sum=true
  ·have e2:sfN r=1:=by unfold sfN;rw[hd,hs];rfl
   have eU:sfU r x=[sfX r x]:=(by unfold sfU;rw[if_pos hs]);have eB:sfB r x=[x]:=(by unfold sfB;rw[if_pos hs]);have cC:=counter1_any cn x0 w1 cW1 (by omega) (by omega);rw[← HX.out]at cC;have k12:Kept [cn] w1 (w1.setCell ⟨cn,0,none⟩ (.int .i64 x)):=(Kept.refl _ _).set (.inl (by simp)) _;have cW2:Blk (w1.setCell ⟨cn,0,none⟩ (.int .i64 x)) cn 3 #[.int .i64 x]:=cW1.set_ 0 _;have r0:w1.cell? ⟨br,0,none⟩=some (.bool r.choice):=bR1.cell 0;have r1:w1.cell? ⟨br,1,none⟩=some (.slice hA hl hc):=bR1.cell 1;have r2:w1.cell? ⟨br,2,none⟩=some (.bool r.sum):=bR1.cell 2;have r3:w1.cell? ⟨br,3,none⟩=some (.int .i64 r.bound):=bR1.cell 3;have r4:w1.cell? ⟨br,4,none⟩=some (.slice bA bl bc):=bR1.cell 4;have r5:w1.cell? ⟨br,5,none⟩=some (.slice wA wl wc):=bR1.cell 5;rw[hs]at r2;have f0:w1.cell? ⟨bf,0,none⟩=some (.func (.func 100) #[] #[.pointer (some ⟨cn,0,none⟩)]):=bF1.cell 0
   obtain⟨HJ1,KW1,BW1,HM1C,HR1,BR1,BF1,CW1,HCNM,HB1,CC,K12⟩:=Zq12 hj1 kW1 bw1 hM1C hr1 bR1 bF1 cW1 hcnM hb1 cC k12;clear hj1 kW1 bw1 hM1C hr1 bR1 bF1 cW1 hcnM hb1 cC k12
   obtain⟨CW2,HD,HCH,HLEN2⟩:=Zq4 cW2 hd hch hlen2;clear cW2 hd hch hlen2
   gi_wp2_with fail
   refine⟨trivial,?_⟩
   refine(callsIn_wide.2 CC.out).mono ?_
   rintro e w2 ⟨rfl,rfl⟩;clear r0 r1 r2 r3 r4 r5 f0;generalize w1.setCell ⟨cn,0,none⟩ (.int .i64 x)=w2 at *;have hj2:=HJ'.out _ _ _ _ HJ1.out K12.out;have kW2:Kept (cn::M) w w2:=KW1.out.trans (K12.out.more (fun q hq=>by simp at hq;simp[hq]))
   obtain⟨hr2,bR2,bF2⟩:=HRES.out M w2 HM.out kW2
   obtain⟨o1,o2,o3⟩:=HOFF.out M HM.out
   have ha:=bel_alloc w2 (.cells #[.int .i64 x] 3);have hx1:Blk (w2.alloc (.cells #[.int .i64 x] 3)) w2.heap.size 3 #[.int .i64 x]:=blk_new rfl _ _;have hx64:I64 x:=(by have:=HX.out;unfold I64;omega);have hM2:=HJM.out _ _ _ hj2;have hc2:=CW2.out.lt
   have hgd:GoodR (cn::M) (sfX r x) #[.agg #[.bool false,.slice (some ⟨w2.heap.size,0,none⟩) 1 1,.bool true,.int .i64 r.bound,.slice bA bl bc,.slice wA wl wc]] (w2.alloc (.cells #[.int .i64 x] 3)):=
    ⟨some ⟨w2.heap.size,0,none⟩,1,1,bA,bl,bc,wA,wl,wc,rfl,⟨sl_one hx1 hx64,hr2.bound,hr2.body.ext ha,hr2.wt.ext ha⟩,fun _ ad e hm=>by
     cases e;rcases List.mem_cons.1 hm with e | e
     ·simp at e;omega
     ·have:=(hM2 _ e).1;simp at this,o2,o3⟩
   have hpf:([]:LG)++[sfX r x] <+: sfRule r x:=by
    unfold sfRule;rw[if_pos HD.out,eU,List.nil_append];exact List.prefix_append _ _
   have hj3:=HJ'.out _ _ _ _ hj2 (Kept.of_below ha _)
   obtain⟨fn,tmps,assign,body,hyy,hRd⟩:=HY'.out M [] (sfX r x) _ _ hj3 hpf hgd
   have r0:w2.cell? ⟨br,0,none⟩=some (.bool r.choice):=bR2.cell 0;have r1:w2.cell? ⟨br,1,none⟩=some (.slice hA hl hc):=bR2.cell 1;have r2:w2.cell? ⟨br,2,none⟩=some (.bool r.sum):=bR2.cell 2;have r3:w2.cell? ⟨br,3,none⟩=some (.int .i64 r.bound):=bR2.cell 3;have r4:w2.cell? ⟨br,4,none⟩=some (.slice bA bl bc):=bR2.cell 4;have r5:w2.cell? ⟨br,5,none⟩=some (.slice wA wl wc):=bR2.cell 5;have s1:(w2.alloc (.cells #[.int .i64 x] 3)).cell? ⟨br,1,none⟩=some (.slice hA hl hc):=(bR2.alloc _).cell 1;have s3:(w2.alloc (.cells #[.int .i64 x] 3)).cell? ⟨br,3,none⟩=some (.int .i64 r.bound):=(bR2.alloc _).cell 3;have s4:(w2.alloc (.cells #[.int .i64 x] 3)).cell? ⟨br,4,none⟩=some (.slice bA bl bc):=(bR2.alloc _).cell 4;have s5:(w2.alloc (.cells #[.int .i64 x] 3)).cell? ⟨br,5,none⟩=some (.slice wA wl wc):=(bR2.alloc _).cell 5;have kW3:=kW2.bel ha;have cW3:=CW2.out.bel ha;have hc3:w.heap.size≤(w2.alloc (.cells #[.int .i64 x] 3)).heap.size:=kW3.size
   obtain⟨HJ2,KW2,HR2,BR2,BF2,HA,HX1,HX64,HM2,HGD,HPF,HJ3⟩:=Zq12 hj2 kW2 hr2 bR2 bF2 ha hx1 hx64 hM2 hgd hpf hj3;clear hj2 kW2 hr2 bR2 bF2 ha hx1 hx64 hM2 hgd hpf hj3
   obtain⟨O1,O2,O3,KW3,CW3,HC3⟩:=Zq6 o1 o2 o3 kW3 cW3 hc3;clear o1 o2 o3 kW3 cW3 hc3
   gi_wp2_with fail;clear r0 r1 r2 r3 r4 r5 s1 s3 s4 s5;refine hRd.mono ?_;rintro e W4 (⟨rfl,M1,hj4,hk4,hm4⟩ | ⟨rfl,hjx⟩)
   ·have kW4:Kept (cn::(M++M1)) w W4:=(KW3.out.more (fun q hq=>by rcases List.mem_cons.1 hq with e | e;rw[e];simp;simp[e])).trans (hk4.more (fun q hq=>by simp[hq]))
    have hMS:∀q∈M++M1,q∈M0∨w.heap.size≤q:=fun q hq=>by
     rcases List.mem_append.1 hq with h | h
     ·exact HM.out q h
     ·rcases hm4 q h with h | h
      ·exact HM.out q h
      ·exact .inr (Nat.le_trans HC3.out h)
    obtain⟨hr4,bR4,bF4⟩:=HRES.out _ W4 hMS kW4
    have cW4:=hk4.blk CW3.out HCNM.out;have hM4:=HJM.out _ _ _ hj4;have ha4:=bel_alloc W4 (.cells #[.int .i64 x] 3);have hQ:SlIs intR (W4.alloc (.cells #[.int .i64 x] 3)) (some ⟨W4.heap.size,0,none⟩) 1 1 (sfB r x):=(by rw[eB];exact sl_one (blk_new rfl _ _) HX64.out);have hQO:Off M1 (some ⟨W4.heap.size,0,none⟩) 1:=fun _ ad e hm=>by cases e;have:=(hM4 _ hm).1;simp at this
    have hJY:=HJ'.out _ _ _ _ hj4 (Kept.of_below ha4 _);rw[List.nil_append,← eU]at hJY;have hKY:=kW4.bel ha4;have hCY:=cW4.bel ha4;have hM1C':∀q∈M1,q≠cn:=fun q hq e=>by have:=(hM4 q hq).2;simp[e]at this
    have hM1S:∀q∈M1,q∈M++M1:=fun q hq=>by simp[hq]
    have bRY:=bR4.bel ha4;have t1:(W4.alloc (.cells #[.int .i64 x] 3)).cell? ⟨br,1,none⟩=some (.slice hA hl hc):=bRY.cell 1;have hQL:1≤1000000:=(by omega);have hQLEN:(sfB r x).length≤8000:=(by rw[eB];simp);have hCY':Blk (W4.alloc (.cells #[.int .i64 x] 3)) cn 3 #[.int .i64 (x0+(sfN r:Int))]:=(by rw[e2,show x0+((1:Nat):Int)=x by have:=HX.out;omega];exact hCY);clear HM1C;have HM1C:=Zq1 hM1C';have HCY:=Zq1 hCY';clear hM1C' hCY' hCY
    obtain⟨HJ4,HK4,HM4,KW4,HMS,HR4,BR4,BF4,CW4⟩:=Zq9 hj4 hk4 hm4 kW4 hMS hr4 bR4 bF4 cW4;clear hj4 hk4 hm4 kW4 hMS hr4 bR4 bF4 cW4
    obtain⟨HM4,HA4,HQ,HQO,HJY,HKY,HM1S,BRY,HQL,HQLEN,EU,EB⟩:=Zq12 hM4 ha4 hQ hQO hJY hKY hM1S bRY hQL hQLEN eU eB;clear hM4 ha4 hQ hQO hJY hKY hM1S bRY hQL hQLEN eU eB
    have E2:=Zq1 e2;clear e2;gi_wp2_with fail;clear t1;generalize W4.alloc (.cells #[.int .i64 x] 3)=Y at *
    obtain⟨Ms,hMs⟩:∃Ms,Ms=M++M1:=⟨_,rfl⟩
    rw[← hMs]at HMS HKY HM1S;clear hMs;gi_loopw [40] (fun t wq=>∃(j:Nat) (Mq Mt:LN),j≤hl∧t=.int .i64 (j:Int)∧J Mq (sfU r x++(r.head.take j).map (sfH r x)) wq∧Kept Mt Y wq∧(∀q∈Mq,q∈Mt)∧(∀q∈Mt,q∈M1∨Y.heap.size≤q)) (fun t _=>hl-(intOf t).toNat)
    case atStart=>exact⟨0,M1,M1,Nat.zero_le _,rfl,by rw[List.take_zero,List.map_nil,List.append_nil];exact HJY.out,Kept.refl _ _,fun _ h=>h,fun _ h=>.inl h⟩
    case round=>
     obtain⟨j,Mq,Mt,hj,rfl,hjj,hkq,hMt,hcq⟩:=hrel
     obtain⟨wo,rfl⟩:∃wo:World,wo=wr:=⟨_,rfl⟩
     have hYs:w.heap.size≤Y.heap.size:=HKY.out.size
     have hcn:cn∉Mt:=fun hq=>by
      rcases hcq _ hq with h | h
      ·exact HM1C.out _ h rfl
      ·have:=HCL.out;omega
     have hk2:Kept (cn::(Ms++Mt)) w wo:=(HKY.out.more (fun q hq=>by rcases List.mem_cons.1 hq with e | e;rw[e];simp;simp[e])).trans (hkq.more (fun q hq=>by simp[hq]))
     have hc2:∀q∈Ms++Mt,q∈M0∨w.heap.size≤q:=fun q hq=>by
      rcases List.mem_append.1 hq with h | h
      ·exact HMS.out q h
      ·rcases hcq q h with h | h
       ·exact HMS.out q (HM1S.out q h)
       ·exact .inr (Nat.le_trans hYs h)
     obtain⟨hrq,bRq,bFq⟩:=HRES.out _ wo hc2 hk2
     have cq:=hkq.blk HCY.out hcn
     have hbq:SlIs intR wo (some ⟨W4.heap.size,0,none⟩) 1 1 (sfB r x):=HQ.out.keptM hkq (fun h0 ad e hq=>by
      rcases hcq _ hq with h | h
      ·exact HQO.out h0 ad e h
      ·have:=HQ.out.blk_lt h0 e;omega)
     have hMlt:=HJM.out _ _ _ hjj
     by_cases hlj:j<hl
     ·obtain⟨h,hjh,-⟩:=hrq.head.drop hlj
      obtain⟨yb,yo,rfl,_,cy,hy64⟩:=hrq.head.int hjh
      have hhr:=inc_mem HRI.out.head h (List.mem_of_getElem? hjh)
      obtain⟨hst,hpf⟩:=sfRule_step (x:=x) HD.out hjh
      have j0:(0:Int)≤(j:Int):=(by omega);have j1:(j:Int)<(hl:Int):=(by omega);have cB:=cloneI_own (some ⟨W4.heap.size,0,none⟩) 1 1 (sfB r x) wo (wo.alloc (.cells #[.int .i64 h] 3)) hbq (bel_alloc _ _) HQL.out;have hH:Blk (wo.alloc (.cells #[.int .i64 h] 3)) wo.heap.size 3 #[.int .i64 h]:=blk_new rfl _ _;have q1:wo.cell? ⟨br,1,none⟩=some (.slice (some ⟨yb,yo,none⟩) hl hc):=bRq.cell 1
      obtain⟨HJJ,HKQ,HMT,HCQ,HCN,HK2,HC2,HRQ,BRQ,BFQ,CQ,HBQ⟩:=Zq12 hjj hkq hMt hcq hcn hk2 hc2 hrq bRq bFq cq hbq;clear hjj hkq hMt hcq hcn hk2 hc2 hrq bRq bFq cq hbq
      obtain⟨HMLT,HJH,HY64,HST,HPF,CB,HH,HHR⟩:=Zq8 hMlt hjh hy64 hst hpf cB hH hhr;clear hMlt hjh hy64 hst hpf cB hH hhr
      gi_wp2_with fail
      refine⟨trivial,?_⟩
      refine(callsIn_wide.2 CB.out).mono ?_
      rintro e w5 ⟨cA,cl,cc,rfl,hown,hcll,hb5⟩;have hbo5:Below wo.heap.size wo w5:=bel_trans (bel_alloc _ _) hb5
      obtain⟨g8,hg8⟩:∃g8,w5.heap.size=g8:=⟨_,rfl⟩
      have hsh:ShB wo (wo.heap.size+1) g8 h (.slice (some ⟨wo.heap.size,0,none⟩) 1 1) (sfB r x++((r.head.take 0).filter fun o=>!(o==h)).map (fun o=>-o)) cA cl cc (w5.alloc (.cells #[.bool false,.slice (some ⟨wo.heap.size,0,none⟩) 1 1,.bool false,.int .i64 0,.slice cA cl cc,.slice none 0 0] 42)):=by
       have hown2:=hown.bel (bel_alloc w5 (.cells #[.bool false,.slice (some ⟨wo.heap.size,0,none⟩) 1 1,.bool false,.int .i64 0,.slice cA cl cc,.slice none 0 0] 42));rw[World.size_alloc]at hown2
       exact⟨by simpa using hown2,by simpa using hcll,blk_new hg8 _ _,fun e=>by have:=(hown.lt e).2;omega,bel_trans hbo5 (bel_alloc _ _),(HH.out.bel hb5).alloc _⟩
      have hg8s:wo.heap.size+1≤g8:=(by have:=hb5.size;rw[World.size_alloc]at this;omega);have hVr:=(BRQ.out.bel hbo5).alloc (.cells #[.bool false,.slice (some ⟨wo.heap.size,0,none⟩) 1 1,.bool false,.int .i64 0,.slice cA cl cc,.slice none 0 0] 42);have q1':(w5.alloc (.cells #[.bool false,.slice (some ⟨wo.heap.size,0,none⟩) 1 1,.bool false,.int .i64 0,.slice cA cl cc,.slice none 0 0] 42)).cell? ⟨br,1,none⟩=some (.slice (some ⟨yb,yo,none⟩) hl hc):=hVr.cell 1;clear hown hb5
      obtain⟨HSH,HVR,HBO5,HCLL⟩:=Zq4 hsh hVr hbo5 hcll;clear hsh hVr hbo5 hcll
      gi_wp2_with fail;clear q1 q1' cy;generalize w5.alloc (.cells #[.bool false,.slice (some ⟨wo.heap.size,0,none⟩) 1 1,.bool false,.int .i64 0,.slice cA cl cc,.slice none 0 0] 42)=V5 at *;gi_loopw [52] (fun t wq=>∃(i:Nat) (A:OA) (l c:Nat),i≤hl∧t=.int .i64 (i:Int)∧ShB wo (wo.heap.size+1) g8 h (.slice (some ⟨wo.heap.size,0,none⟩) 1 1) (sfB r x++((r.head.take i).filter fun o=>!(o==h)).map (fun o=>-o)) A l c wq) (fun t _=>hl-(intOf t).toNat)
      case atStart=>exact⟨0,cA,cl,cc,Nat.zero_le _,rfl,HSH.out⟩
      case round=>
       obtain⟨i,A,l,c,hi,rfl,sh⟩:=hrel
       obtain⟨wi,rfl⟩:∃wi:World,wi=wr:=⟨_,rfl⟩
       by_cases hli:i<hl
       ·obtain⟨o,hio,-⟩:=HRQ.out.head.drop hli
        obtain⟨ob,oo,e2,_,co,ho64⟩:=(HRQ.out.head.ext sh.bel).int hio
        cases e2;have hor:=inc_mem HRI.out.head o (List.mem_of_getElem? hio);have i0:(0:Int)≤(i:Int):=(by omega);have i1:(i:Int)<(hl:Int):=(by omega);have hn4:=HRI.out.n1;have hstp:=sfO_step (h:=h) hio
        by_cases heq:o=h
        ·rw[if_pos heq,List.append_nil]at hstp;have d1:(o != h)=false:=(by simp[heq])
         obtain⟨SH,HIO,HSTP,HEQ,HOR,HO64⟩:=Zq6 sh hio hstp heq hor ho64;clear sh hio hstp heq hor ho64
         gi_wp2_with fail;go_roundw;exact⟨i+1,A,l,c,by omega,by go_num,by rw[HSTP.out];exact SH.out⟩;simp[intOf];omega
        ·rw[if_neg heq]at hstp;have d1:(o != h)=true:=(by simp[heq]);have e3:IntKind.i64.wrap (-o) = -o:=IntWalk.i64_in _ (by omega)
         have hlb:(sfB r x++((r.head.take i).filter fun o=>!(o==h)).map (fun o=>-o)).length<1099511627776:=by
          have a1:=HQLEN.out;have a2:=List.length_filter_le (fun o=>!(o==h)) (r.head.take i);have a3:=List.length_take_le i r.head;have a4:=inc_lenN HRI.out.n0 HRI.out.head;have a5:((r.head.take i).length:Int)≤4000:=(by have:=HRI.out.n1;have:=List.length_take_le' i r.head;omega);rw[List.length_append,List.length_map];omega
         obtain⟨v',w6,hrun,own6,hg6,hat6⟩:=sh.own.app1 ety_int [.int .i64 (-o)] (-o) ⟨rfl,by unfold I64;omega⟩ hlb 23
         obtain⟨A',c',rfl,-⟩:=own6.sl (by rw[List.length_append,List.length_singleton];omega)
         have hbx:=sh.box;have b6:=(grown_kept hg6).blk sh.box (fun e=>sh.ne (by simpa using e));have k4:wi.cell? ⟨g8,4,none⟩=some (.slice A l c):=hbx.cell 4;have k4':(wi.alloc (.cells #[.int .i64 (-o)] 3)).cell? ⟨g8,4,none⟩=some (.slice A l c):=(hbx.alloc _).cell 4;have k6:w6.cell? ⟨g8,4,none⟩=some (.slice A l c):=b6.cell 4;have z6:w6.frozen? ⟨g8,4,none⟩=false:=b6.frozen 4
         obtain⟨l',hl'⟩:∃l',l'=(sfB r x++((r.head.take i).filter fun o=>!(o==h)).map (fun o=>-o)++[-o]).length:=⟨_,rfl⟩
         have hg8l:wo.heap.size+1≤g8∧g8<wi.heap.size:=⟨hg8s,hbx.lt⟩
         have hne6:(Value.slice A' l' c').ownBlock≠some g8:=fun e=>by
          rcases hat6 g8 (by rw[← hl'];exact e)with h | h
          ·exact sh.ne h
          ·omega
         have kk:Kept [g8] w6 (w6.setCell ⟨g8,4,none⟩ (.slice A' l' c')):=(Kept.refl _ _).set (.inl (by simp)) _;rw[← hl']at hrun own6
         have sh7:ShB wo (wo.heap.size+1) g8 h (.slice (some ⟨wo.heap.size,0,none⟩) 1 1) (sfB r x++((r.head.take (i+1)).filter fun o=>!(o==h)).map (fun o=>-o)) A' l' c' (w6.setCell ⟨g8,4,none⟩ (.slice A' l' c')):=by
          rw[hstp,← List.append_assoc]
          have o7:=own6.kept kk (fun k hk=>by
           simp at hk;subst hk
           exact⟨by omega,hne6⟩)
          exact⟨o7,hl',b6.set_ 4 _,hne6,o7.below,((grown_kept hg6).blk sh.hd (fun e=>by have:=(sh.own.lt (by simpa using e)).1;omega)).far (by simp;omega) _⟩
         have hlv:(l:Int)=l:=rfl
         obtain⟨SH,HIO,HSTP,HOR,HO64,HRUN,OWN6,HG6,HBX,B6,SH7,KK⟩:=Zq12 sh hio hstp hor ho64 hrun own6 hg6 hbx b6 sh7 kk;clear sh hio hstp hor ho64 hrun own6 hg6 hbx b6 sh7 kk
         obtain⟨HNE6,HL',HAT6⟩:=Zq3 hne6 hl' hat6;clear hne6 hl' hat6
         gi_wp2_with (gi_at_builtin;refine wpListIn_append_run rfl _ _ _ rfl _ _ rfl rfl _ _ HRUN.out ?_);go_roundw;exact⟨i+1,A',l',c',by omega,by go_num,SH7.out⟩;simp[intOf];omega
       ·have hil:i=hl:=(by omega)
        have htk:sfB r x++((r.head.take i).filter fun o=>!(o==h)).map (fun o=>-o)=(sfH r x h).body:=by
         rw[List.take_of_length_le (by have:=HRQ.out.head.len;omega)];rfl
        rw[htk]at sh;have hbx:=sh.box;have hbi:=sh.bel;have hji:=HJ'.out _ _ _ _ HJJ.out (Kept.of_below hbi _)
        have hbli:((sfH r x h).body).length≤17592186044416:=by
         rw[← htk,List.length_append,List.length_map];have a1:=HQLEN.out;have a2:=List.length_filter_le (fun o=>!(o==h)) (r.head.take i);have a4:=inc_lenN HRI.out.n0 HRI.out.head;have a5:((r.head.take i).length:Int)≤4000:=(by have:=HRI.out.n1;have:=List.length_take_le' i r.head;omega);omega
        obtain⟨A2,c2,ev,hsl⟩:=sh.own.sl hbli
        rw[← sh.len]at ev hsl;injection ev with e1 _ e2;subst e1 e2;have hHi:=sh.hd
        have hgd:GoodR (cn::Mq) (sfH r x h) #[.agg #[.bool false,.slice (some ⟨wo.heap.size,0,none⟩) 1 1,.bool false,.int .i64 0,.slice A l c,.slice none 0 0]] wi:=by
         have hlt:∀q∈cn::Mq,q<wo.heap.size:=fun q hq=>by
          rcases List.mem_cons.1 hq with rfl | hq
          ·exact CQ.out.lt
          ·exact(HMLT.out q hq).1
         refine⟨some ⟨wo.heap.size,0,none⟩,1,1,A,l,c,none,0,0,rfl,⟨sl_one hHi HY64.out,by simp[I64,sfH],hsl,SlIs.nil _ _⟩,fun _ ad e hm=>by cases e;have:=hlt _ hm;simp at this,fun h0 ad e hm=>?_,Off.nil _ _⟩
         have a1:=(sh.own.lt (k:=ad.block) (by rw[e];rfl)).1;have a2:=hlt _ hm;omega
        obtain⟨fn,tmps,assign,body,hyy,hRd⟩:=HY'.out Mq _ _ _ _ hji HPF.out hgd
        have m0:wi.cell? ⟨g8,0,none⟩=some (.bool false):=hbx.cell 0;have m1:wi.cell? ⟨g8,1,none⟩=some (.slice (some ⟨wo.heap.size,0,none⟩) 1 1):=hbx.cell 1;have m2:wi.cell? ⟨g8,2,none⟩=some (.bool false):=hbx.cell 2;have m3:wi.cell? ⟨g8,3,none⟩=some (.int .i64 0):=hbx.cell 3;have m4:wi.cell? ⟨g8,4,none⟩=some (.slice A l c):=hbx.cell 4;have m5:wi.cell? ⟨g8,5,none⟩=some (.slice none 0 0):=hbx.cell 5;have hkV:=HKQ.out.bel hbi
        obtain⟨SH,HBX,HBI,HJI,HSL,HHI,HGD,HKV⟩:=Zq8 sh hbx hbi hji hsl hHi hgd hkV;clear sh hbx hbi hji hsl hHi hgd hkV
        gi_wp2_with fail;refine hRd.mono ?_;rintro e W4 (⟨rfl,M2,hj4,hk4,hm4⟩ | ⟨rfl,hjx⟩)
        ·have hw4:Kept (Mt++M2) Y W4:=(HKV.out.more (fun q hq=>by simp[hq])).trans (hk4.more (fun q hq=>by simp[HMT.out q hq]))
         have hc4:∀q∈Mt++M2,q∈M1∨Y.heap.size≤q:=fun q hq=>by
          rcases List.mem_append.1 hq with h | h
          ·exact HCQ.out q h
          ·rcases hm4 q h with h | h
           ·exact HCQ.out q (HMT.out q h)
           ·exact .inr (Nat.le_trans HKV.out.size h)
         obtain⟨HJ4,HK4,HM4,HW4,HC4⟩:=Zq5 hj4 hk4 hm4 hw4 hc4;clear hj4 hk4 hm4 hw4 hc4
         gi_wp2_with fail;go_roundw;exact⟨j+1,M2,Mt++M2,by omega,by go_num,by rw[HST.out];exact HJ4.out,HW4.out,fun q hq=>by simp[hq],HC4.out⟩;simp[intOf];omega
        ·
         have HJX2:=Zq1 hjx;clear hjx;gi_wp2_with fail;refine bodyPost_ret (results_none rfl _ _ _) rfl ?_
         exact⟨⟨_,rfl⟩,.inr ⟨_,HPF.out,HJX2.out⟩⟩
     ·have hjl:j=hl:=(by omega)
      have hfin:J Mq (sfRule r x) wo:=by
       unfold sfRule;rw[if_pos HD.out]
       rwa [show r.head.take j=r.head from List.take_of_length_le (by have:=hrq.head.len;omega)]at hjj
      obtain⟨HJJ,HKQ,HMT,HCQ,HCN,HK2,HC2,HRQ,BRQ,BFQ,CQ,HBQ⟩:=Zq12 hjj hkq hMt hcq hcn hk2 hc2 hrq bRq bFq cq hbq;clear hjj hkq hMt hcq hcn hk2 hc2 hrq bRq bFq cq hbq
      obtain⟨HMLT,HJL,HFIN⟩:=Zq3 hMlt hjl hfin;clear hMlt hjl hfin
      gi_wp2_with fail;go_end0
      exact⟨⟨_,rfl⟩,.inl ⟨⟨_,HFIN.out⟩,CQ.out⟩⟩
   ·
    have HJX2:=Zq1 hjx;clear hjx;gi_wp2_with fail;refine bodyPost_ret (results_none rfl _ _ _) rfl ?_
    exact⟨⟨_,rfl⟩,.inr ⟨_,HPF.out,HJX2.out⟩⟩
  ·have hs:r.sum=false:=by simpa using hs
   have e2:sfN r=0:=(by unfold sfN;rw[hd,hs];rfl);have eU:sfU r x=[]:=(by unfold sfU;rw[hs];rfl);have eB:sfB r x=r.body:=(by unfold sfB;rw[hs];rfl)
   obtain⟨o1,o2,o3⟩:=HOFF.out M HM.out
   have hQ:SlIs intR w1 bA bl bc (sfB r x):=(by rw[eB];exact hr1.body);have hQO:Off M bA bl:=o2.sub (fun q hq=>by simp[hq]);have hJY:J M (sfU r x) w1:=(by rw[eU];exact hj1)
   obtain⟨Ms,hMs⟩:∃Ms,Ms=M:=⟨_,rfl⟩
   have hKY:Kept (cn::Ms) w w1:=(by rw[hMs];exact kW1);have hCY:Blk w1 cn 3 #[.int .i64 (x0+(sfN r:Int))]:=(by rw[e2];simpa using cW1);have hM1C2:∀q∈M,q≠cn:=hM1C;have hM1S:∀q∈M,q∈Ms:=fun q hq=>by rw[hMs];exact hq
   have hMS:∀q∈Ms,q∈M0∨w.heap.size≤q:=(by rw[hMs];exact HM.out);have hQL:bl≤1000000:=(by have:=hr1.body.len;omega);have hQLEN:(sfB r x).length≤8000:=(by rw[eB];exact hbl8);have r0:w1.cell? ⟨br,0,none⟩=some (.bool r.choice):=bR1.cell 0;have r1:w1.cell? ⟨br,1,none⟩=some (.slice hA hl hc):=bR1.cell 1;have r2:w1.cell? ⟨br,2,none⟩=some (.bool r.sum):=bR1.cell 2;have r3:w1.cell? ⟨br,3,none⟩=some (.int .i64 r.bound):=bR1.cell 3;have r4:w1.cell? ⟨br,4,none⟩=some (.slice bA bl bc):=bR1.cell 4;have r5:w1.cell? ⟨br,5,none⟩=some (.slice wA wl wc):=bR1.cell 5;rw[hs]at r2
   obtain⟨HJ1,KW1,BW1,HM1C,HR1,BR1,BF1,CW1,HCNM,HB1,HD,HCH⟩:=Zq12 hj1 kW1 bw1 hM1C hr1 bR1 bF1 cW1 hcnM hb1 hd hch;clear hj1 kW1 bw1 hM1C hr1 bR1 bF1 cW1 hcnM hb1 hd hch
   obtain⟨HLEN2,HQ,HQO,HJY,HKY,HCY,HM1S,HMS,HQL,HQLEN,EU,EB⟩:=Zq12 hlen2 hQ hQO hJY hKY hCY hM1S hMS hQL hQLEN eU eB;clear hlen2 hQ hQO hJY hKY hCY hM1S hMS hQL hQLEN eU eB
   obtain⟨E2,O1,O2,O3⟩:=Zq4 e2 o1 o2 o3;clear e2 o1 o2 o3
   clear hMs;gi_wp2_with fail;clear r0 r1 r2 r3 r4 r5
   obtain⟨Y,rfl⟩:∃Y:World,Y=w1:=⟨_,rfl⟩
   obtain⟨M1,rfl⟩:∃M1:LN,M1=M:=⟨_,rfl⟩
   gi_loopw [40] (fun t wq=>∃(j:Nat) (Mq Mt:LN),j≤hl∧t=.int .i64 (j:Int)∧J Mq (sfU r x++(r.head.take j).map (sfH r x)) wq∧Kept Mt Y wq∧(∀q∈Mq,q∈Mt)∧(∀q∈Mt,q∈M1∨Y.heap.size≤q)) (fun t _=>hl-(intOf t).toNat)
   case atStart=>exact⟨0,M1,M1,Nat.zero_le _,rfl,by rw[List.take_zero,List.map_nil,List.append_nil];exact HJY.out,Kept.refl _ _,fun _ h=>h,fun _ h=>.inl h⟩
   case round=>
    obtain⟨j,Mq,Mt,hj,rfl,hjj,hkq,hMt,hcq⟩:=hrel
    obtain⟨wo,rfl⟩:∃wo:World,wo=wr:=⟨_,rfl⟩
    have hYs:w.heap.size≤Y.heap.size:=HKY.out.size
    have hcn:cn∉Mt:=fun hq=>by
     rcases hcq _ hq with h | h
     ·exact HM1C.out _ h rfl
     ·have:=HCL.out;omega
    have hk2:Kept (cn::(Ms++Mt)) w wo:=(HKY.out.more (fun q hq=>by rcases List.mem_cons.1 hq with e | e;rw[e];simp;simp[e])).trans (hkq.more (fun q hq=>by simp[hq]))
    have hc2:∀q∈Ms++Mt,q∈M0∨w.heap.size≤q:=fun q hq=>by
     rcases List.mem_append.1 hq with h | h
     ·exact HMS.out q h
     ·rcases hcq q h with h | h
      ·exact HMS.out q (HM1S.out q h)
      ·exact .inr (Nat.le_trans hYs h)
    obtain⟨hrq,bRq,bFq⟩:=HRES.out _ wo hc2 hk2
    have cq:=hkq.blk HCY.out hcn
    have hbq:SlIs intR wo bA bl bc (sfB r x):=HQ.out.keptM hkq (fun h0 ad e hq=>by
     rcases hcq _ hq with h | h
     ·exact HQO.out h0 ad e h
     ·have:=HQ.out.blk_lt h0 e;omega)
    have hMlt:=HJM.out _ _ _ hjj
    by_cases hlj:j<hl
    ·obtain⟨h,hjh,-⟩:=hrq.head.drop hlj
     obtain⟨yb,yo,rfl,_,cy,hy64⟩:=hrq.head.int hjh
     have hhr:=inc_mem HRI.out.head h (List.mem_of_getElem? hjh)
     obtain⟨hst,hpf⟩:=sfRule_step (x:=x) HD.out hjh
     have j0:(0:Int)≤(j:Int):=(by omega);have j1:(j:Int)<(hl:Int):=(by omega);have cB:=cloneI_own bA bl bc (sfB r x) wo (wo.alloc (.cells #[.int .i64 h] 3)) hbq (bel_alloc _ _) HQL.out;have hH:Blk (wo.alloc (.cells #[.int .i64 h] 3)) wo.heap.size 3 #[.int .i64 h]:=blk_new rfl _ _;have q1:wo.cell? ⟨br,1,none⟩=some (.slice (some ⟨yb,yo,none⟩) hl hc):=bRq.cell 1
     obtain⟨HJJ,HKQ,HMT,HCQ,HCN,HK2,HC2,HRQ,BRQ,BFQ,CQ,HBQ⟩:=Zq12 hjj hkq hMt hcq hcn hk2 hc2 hrq bRq bFq cq hbq;clear hjj hkq hMt hcq hcn hk2 hc2 hrq bRq bFq cq hbq
     obtain⟨HMLT,HJH,HY64,HST,HPF,CB,HH,HHR⟩:=Zq8 hMlt hjh hy64 hst hpf cB hH hhr;clear hMlt hjh hy64 hst hpf cB hH hhr
     gi_wp2_with fail
     refine⟨trivial,?_⟩
     refine(callsIn_wide.2 CB.out).mono ?_
     rintro e w5 ⟨cA,cl,cc,rfl,hown,hcll,hb5⟩;have hbo5:Below wo.heap.size wo w5:=bel_trans (bel_alloc _ _) hb5
     obtain⟨g8,hg8⟩:∃g8,w5.heap.size=g8:=⟨_,rfl⟩
     have hsh:ShB wo (wo.heap.size+1) g8 h (.slice (some ⟨wo.heap.size,0,none⟩) 1 1) (sfB r x++((r.head.take 0).filter fun o=>!(o==h)).map (fun o=>-o)) cA cl cc (w5.alloc (.cells #[.bool false,.slice (some ⟨wo.heap.size,0,none⟩) 1 1,.bool false,.int .i64 0,.slice cA cl cc,.slice none 0 0] 42)):=by
      have hown2:=hown.bel (bel_alloc w5 (.cells #[.bool false,.slice (some ⟨wo.heap.size,0,none⟩) 1 1,.bool false,.int .i64 0,.slice cA cl cc,.slice none 0 0] 42));rw[World.size_alloc]at hown2
      exact⟨by simpa using hown2,by simpa using hcll,blk_new hg8 _ _,fun e=>by have:=(hown.lt e).2;omega,bel_trans hbo5 (bel_alloc _ _),(HH.out.bel hb5).alloc _⟩
     have hg8s:wo.heap.size+1≤g8:=(by have:=hb5.size;rw[World.size_alloc]at this;omega);have hVr:=(BRQ.out.bel hbo5).alloc (.cells #[.bool false,.slice (some ⟨wo.heap.size,0,none⟩) 1 1,.bool false,.int .i64 0,.slice cA cl cc,.slice none 0 0] 42);have q1':(w5.alloc (.cells #[.bool false,.slice (some ⟨wo.heap.size,0,none⟩) 1 1,.bool false,.int .i64 0,.slice cA cl cc,.slice none 0 0] 42)).cell? ⟨br,1,none⟩=some (.slice (some ⟨yb,yo,none⟩) hl hc):=hVr.cell 1;clear hown hb5
     obtain⟨HSH,HVR,HBO5,HCLL⟩:=Zq4 hsh hVr hbo5 hcll;clear hsh hVr hbo5 hcll
     gi_wp2_with fail;clear q1 q1' cy;generalize w5.alloc (.cells #[.bool false,.slice (some ⟨wo.heap.size,0,none⟩) 1 1,.bool false,.int .i64 0,.slice cA cl cc,.slice none 0 0] 42)=V5 at *;gi_loopw [52] (fun t wq=>∃(i:Nat) (A:OA) (l c:Nat),i≤hl∧t=.int .i64 (i:Int)∧ShB wo (wo.heap.size+1) g8 h (.slice (some ⟨wo.heap.size,0,none⟩) 1 1) (sfB r x++((r.head.take i).filter fun o=>!(o==h)).map (fun o=>-o)) A l c wq) (fun t _=>hl-(intOf t).toNat)
     case atStart=>exact⟨0,cA,cl,cc,Nat.zero_le _,rfl,HSH.out⟩
     case round=>
      obtain⟨i,A,l,c,hi,rfl,sh⟩:=hrel
      obtain⟨wi,rfl⟩:∃wi:World,wi=wr:=⟨_,rfl⟩
      by_cases hli:i<hl
      ·obtain⟨o,hio,-⟩:=HRQ.out.head.drop hli
       obtain⟨ob,oo,e2,_,co,ho64⟩:=(HRQ.out.head.ext sh.bel).int hio
       cases e2;have hor:=inc_mem HRI.out.head o (List.mem_of_getElem? hio);have i0:(0:Int)≤(i:Int):=(by omega);have i1:(i:Int)<(hl:Int):=(by omega);have hn4:=HRI.out.n1;have hstp:=sfO_step (h:=h) hio
       by_cases heq:o=h
       ·rw[if_pos heq,List.append_nil]at hstp;have d1:(o != h)=false:=(by simp[heq])
        obtain⟨SH,HIO,HSTP,HEQ,HOR,HO64⟩:=Zq6 sh hio hstp heq hor ho64;clear sh hio hstp heq hor ho64
        gi_wp2_with fail;go_roundw;exact⟨i+1,A,l,c,by omega,by go_num,by rw[HSTP.out];exact SH.out⟩;simp[intOf];omega
       ·rw[if_neg heq]at hstp;have d1:(o != h)=true:=(by simp[heq]);have e3:IntKind.i64.wrap (-o) = -o:=IntWalk.i64_in _ (by omega)
        have hlb:(sfB r x++((r.head.take i).filter fun o=>!(o==h)).map (fun o=>-o)).length<1099511627776:=by
         have a1:=HQLEN.out;have a2:=List.length_filter_le (fun o=>!(o==h)) (r.head.take i);have a3:=List.length_take_le i r.head;have a4:=inc_lenN HRI.out.n0 HRI.out.head;have a5:((r.head.take i).length:Int)≤4000:=(by have:=HRI.out.n1;have:=List.length_take_le' i r.head;omega);rw[List.length_append,List.length_map];omega
        obtain⟨v',w6,hrun,own6,hg6,hat6⟩:=sh.own.app1 ety_int [.int .i64 (-o)] (-o) ⟨rfl,by unfold I64;omega⟩ hlb 23
        obtain⟨A',c',rfl,-⟩:=own6.sl (by rw[List.length_append,List.length_singleton];omega)
        have hbx:=sh.box;have b6:=(grown_kept hg6).blk sh.box (fun e=>sh.ne (by simpa using e));have k4:wi.cell? ⟨g8,4,none⟩=some (.slice A l c):=hbx.cell 4;have k4':(wi.alloc (.cells #[.int .i64 (-o)] 3)).cell? ⟨g8,4,none⟩=some (.slice A l c):=(hbx.alloc _).cell 4;have k6:w6.cell? ⟨g8,4,none⟩=some (.slice A l c):=b6.cell 4;have z6:w6.frozen? ⟨g8,4,none⟩=false:=b6.frozen 4
        obtain⟨l',hl'⟩:∃l',l'=(sfB r x++((r.head.take i).filter fun o=>!(o==h)).map (fun o=>-o)++[-o]).length:=⟨_,rfl⟩
        have hg8l:wo.heap.size+1≤g8∧g8<wi.heap.size:=⟨hg8s,hbx.lt⟩
        have hne6:(Value.slice A' l' c').ownBlock≠some g8:=fun e=>by
         rcases hat6 g8 (by rw[← hl'];exact e)with h | h
         ·exact sh.ne h
         ·omega
        have kk:Kept [g8] w6 (w6.setCell ⟨g8,4,none⟩ (.slice A' l' c')):=(Kept.refl _ _).set (.inl (by simp)) _;rw[← hl']at hrun own6
        have sh7:ShB wo (wo.heap.size+1) g8 h (.slice (some ⟨wo.heap.size,0,none⟩) 1 1) (sfB r x++((r.head.take (i+1)).filter fun o=>!(o==h)).map (fun o=>-o)) A' l' c' (w6.setCell ⟨g8,4,none⟩ (.slice A' l' c')):=by
         rw[hstp,← List.append_assoc]
         have o7:=own6.kept kk (fun k hk=>by
          simp at hk;subst hk
          exact⟨by omega,hne6⟩)
         exact⟨o7,hl',b6.set_ 4 _,hne6,o7.below,((grown_kept hg6).blk sh.hd (fun e=>by have:=(sh.own.lt (by simpa using e)).1;omega)).far (by simp;omega) _⟩
        have hlv:(l:Int)=l:=rfl
        obtain⟨SH,HIO,HSTP,HOR,HO64,HRUN,OWN6,HG6,HBX,B6,SH7,KK⟩:=Zq12 sh hio hstp hor ho64 hrun own6 hg6 hbx b6 sh7 kk;clear sh hio hstp hor ho64 hrun own6 hg6 hbx b6 sh7 kk
        obtain⟨HNE6,HL',HAT6⟩:=Zq3 hne6 hl' hat6;clear hne6 hl' hat6
        gi_wp2_with (gi_at_builtin;refine wpListIn_append_run rfl _ _ _ rfl _ _ rfl rfl _ _ HRUN.out ?_);go_roundw;exact⟨i+1,A',l',c',by omega,by go_num,SH7.out⟩;simp[intOf];omega
      ·have hil:i=hl:=(by omega)
       have htk:sfB r x++((r.head.take i).filter fun o=>!(o==h)).map (fun o=>-o)=(sfH r x h).body:=by
        rw[List.take_of_length_le (by have:=HRQ.out.head.len;omega)];rfl
       rw[htk]at sh;have hbx:=sh.box;have hbi:=sh.bel;have hji:=HJ'.out _ _ _ _ HJJ.out (Kept.of_below hbi _)
       have hbli:((sfH r x h).body).length≤17592186044416:=by
        rw[← htk,List.length_append,List.length_map];have a1:=HQLEN.out;have a2:=List.length_filter_le (fun o=>!(o==h)) (r.head.take i);have a4:=inc_lenN HRI.out.n0 HRI.out.head;have a5:((r.head.take i).length:Int)≤4000:=(by have:=HRI.out.n1;have:=List.length_take_le' i r.head;omega);omega
       obtain⟨A2,c2,ev,hsl⟩:=sh.own.sl hbli
       rw[← sh.len]at ev hsl;injection ev with e1 _ e2;subst e1 e2;have hHi:=sh.hd
       have hgd:GoodR (cn::Mq) (sfH r x h) #[.agg #[.bool false,.slice (some ⟨wo.heap.size,0,none⟩) 1 1,.bool false,.int .i64 0,.slice A l c,.slice none 0 0]] wi:=by
        have hlt:∀q∈cn::Mq,q<wo.heap.size:=fun q hq=>by
         rcases List.mem_cons.1 hq with rfl | hq
         ·exact CQ.out.lt
         ·exact(HMLT.out q hq).1
        refine⟨some ⟨wo.heap.size,0,none⟩,1,1,A,l,c,none,0,0,rfl,⟨sl_one hHi HY64.out,by simp[I64,sfH],hsl,SlIs.nil _ _⟩,fun _ ad e hm=>by cases e;have:=hlt _ hm;simp at this,fun h0 ad e hm=>?_,Off.nil _ _⟩
        have a1:=(sh.own.lt (k:=ad.block) (by rw[e];rfl)).1;have a2:=hlt _ hm;omega
       obtain⟨fn,tmps,assign,body,hyy,hRd⟩:=HY'.out Mq _ _ _ _ hji HPF.out hgd
       have m0:wi.cell? ⟨g8,0,none⟩=some (.bool false):=hbx.cell 0;have m1:wi.cell? ⟨g8,1,none⟩=some (.slice (some ⟨wo.heap.size,0,none⟩) 1 1):=hbx.cell 1;have m2:wi.cell? ⟨g8,2,none⟩=some (.bool false):=hbx.cell 2;have m3:wi.cell? ⟨g8,3,none⟩=some (.int .i64 0):=hbx.cell 3;have m4:wi.cell? ⟨g8,4,none⟩=some (.slice A l c):=hbx.cell 4;have m5:wi.cell? ⟨g8,5,none⟩=some (.slice none 0 0):=hbx.cell 5;have hkV:=HKQ.out.bel hbi
       obtain⟨SH,HBX,HBI,HJI,HSL,HHI,HGD,HKV⟩:=Zq8 sh hbx hbi hji hsl hHi hgd hkV;clear sh hbx hbi hji hsl hHi hgd hkV
       gi_wp2_with fail;refine hRd.mono ?_;rintro e W4 (⟨rfl,M2,hj4,hk4,hm4⟩ | ⟨rfl,hjx⟩)
       ·have hw4:Kept (Mt++M2) Y W4:=(HKV.out.more (fun q hq=>by simp[hq])).trans (hk4.more (fun q hq=>by simp[HMT.out q hq]))
        have hc4:∀q∈Mt++M2,q∈M1∨Y.heap.size≤q:=fun q hq=>by
         rcases List.mem_append.1 hq with h | h
         ·exact HCQ.out q h
         ·rcases hm4 q h with h | h
          ·exact HCQ.out q (HMT.out q h)
          ·exact .inr (Nat.le_trans HKV.out.size h)
        obtain⟨HJ4,HK4,HM4,HW4,HC4⟩:=Zq5 hj4 hk4 hm4 hw4 hc4;clear hj4 hk4 hm4 hw4 hc4
        gi_wp2_with fail;go_roundw;exact⟨j+1,M2,Mt++M2,by omega,by go_num,by rw[HST.out];exact HJ4.out,HW4.out,fun q hq=>by simp[hq],HC4.out⟩;simp[intOf];omega
       ·
        have HJX2:=Zq1 hjx;clear hjx;gi_wp2_with fail;refine bodyPost_ret (results_none rfl _ _ _) rfl ?_
        exact⟨⟨_,rfl⟩,.inr ⟨_,HPF.out,HJX2.out⟩⟩
    ·have hjl:j=hl:=(by omega)
     have hfin:J Mq (sfRule r x) wo:=by
      unfold sfRule;rw[if_pos HD.out]
      rwa [show r.head.take j=r.head from List.take_of_length_le (by have:=hrq.head.len;omega)]at hjj
     obtain⟨HJJ,HKQ,HMT,HCQ,HCN,HK2,HC2,HRQ,BRQ,BFQ,CQ,HBQ⟩:=Zq12 hjj hkq hMt hcq hcn hk2 hc2 hrq bRq bFq cq hbq;clear hjj hkq hMt hcq hcn hk2 hc2 hrq bRq bFq cq hbq
     obtain⟨HMLT,HJL,HFIN⟩:=Zq3 hMlt hjl hfin;clear hMlt hjl hfin
     gi_wp2_with fail;go_end0
     exact⟨⟨_,rfl⟩,.inl ⟨⟨_,HFIN.out⟩,CQ.out⟩⟩

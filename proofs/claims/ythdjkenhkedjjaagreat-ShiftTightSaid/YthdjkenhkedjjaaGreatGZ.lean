/- Several texts in one: Rng, Rd9, Rngb, Rdb, Rda, Rdc. -/
import Derived.Test.YthdjkenhkedjjaaGreatG2
import Derived.RangeFuncNested
import Derived.RangeFuncBound
import Derived.RangeFuncCalls
import Derived.RangeFuncLeaves
import Derived.Test.YthdjkenhkedjjaaGreatRd8
import Derived.OwnWalkIn
import Derived.TacticsInMore
import Derived.LoopNIn
import Derived.LoopIn
import Derived.Shelf.Abstract
import Derived.Deep.RegionWith
import Derived.Maps.Own
namespace Go.Proofs.YthdjkenhkedjjaaGreat
open Go.RowKit
theorem Kept.of_below {w a : World} (h : Below w.heap.size w a) (S : List Nat) : Kept S w a := (Kept.refl S w).bel h
theorem kept_putObj (W : World) (l : Nat) (o : Obj) : Kept [l] W (W.putObj l o) :=
 ⟨rfl,rfl,rfl,by simp [World.putObj],fun k _ hk => World.putObj_heap_other (by simpa using hk)⟩
def YieldM {α : Type} (F : Fence) (m : Nat) (P : Program) (l : Nat) (J : List Nat → List α → World → Prop) (Jx : List α → World → Prop) (Good : List Nat → α → Array Value → World → Prop) (xs : List α) : Prop :=
 ∀ M pre x args W1,J M pre W1 → pre ++ [x] <+: xs → Good M x args W1 → YieldAt F m P l args W1 fun e W' =>
  (e = .returned (.bool true) ∧ ∃ M',J M' (pre ++ [x]) W' ∧ Kept M W1 W' ∧ (∀ k ∈ M',k ∈ M ∨ W1.heap.size ≤ k)) ∨ (e = .returned (.bool false) ∧ Jx (pre ++ [x]) W')
def IterM {α : Type} (F : Fence) (m : Nat) (P : Program) (gf : Nat) (lb : Array Value) (Good : List Nat → α → Array Value → World → Prop) (xs : List α) (M0 : List Nat) (w : World) : Prop :=
 ∀ (l : Nat) (J : List Nat → List α → World → Prop) (Jx : List α → World → Prop) (M : List Nat) (W : World),
  (∀ M pre A B,J M pre A → Below A.heap.size A B → J M pre B) → (∀ pre A B,Jx pre A → Below A.heap.size A B → Jx pre B) → (∀ M pre A,J M pre A → ∀ k ∈ M,k < A.heap.size) →
  YieldM F (m - 1) P l J Jx Good xs → J M [] W → Below w.heap.size w W → (∀ k ∈ M,k ∈ M0 ∨ w.heap.size ≤ k) →
  CallsIn F m P gf (#[.func (.yield l) #[] #[]] ++ lb) W fun e W' => (∃ v,e = .returned v) ∧ ((∃ M',J M' xs W') ∨ (∃ pre,pre <+: xs ∧ Jx pre W'))
def postM {α : Type} (I : List Nat → List α → World → Prop) (Ix : Code → List α → World → Prop) (M : List Nat) (xs : List α) (W : World) : Exit → Act → World → Prop
 | .normal,_,W' => ∃ M',I M' xs W' ∧ Kept M W W' ∧ (∀ k ∈ M',k ∈ M ∨ W.heap.size ≤ k)
 | .ret,_,W' => Ix .ret xs W' ∧ Kept M W W'
 | .exit id,_,W' => Ix (.exit id) xs W' ∧ Kept M W W'
 | .goto t,_,W' => Ix (.goto t) xs W' ∧ Kept M W W'
 | .panic _,_,_ => False
 | .outgrown,_,_ => False
end Go.Proofs.YthdjkenhkedjjaaGreat
namespace Go.Proofs.YthdjkenhkedjjaaGreat
open Go.RowKit
def Off (M : List Nat) (A : Option Addr) (l : Nat) : Prop := 0 < l → ∀ ad,A = some ad → ad.block ∉ M
theorem Off.nil (M : List Nat) (A : Option Addr) : Off M A 0 := fun h => absurd h (by simp)
theorem Off.sub {M T : List Nat} {A : Option Addr} {l : Nat} (h : Off M A l) (hs : ∀ k ∈ T,k ∈ M) : Off T A l := fun h0 ad e hm => h h0 ad e (hs _ hm)
theorem Frs.off {n : Nat} {M : List Nat} {A : Option Addr} {l : Nat} (h : Frs n A l) (hM : ∀ k ∈ M,k < n) : Off M A l := fun h0 ad e hm => by have := h h0 ad e; have := hM _ hm; omega
theorem SlIs.keptM {M : List Nat} {w B : World} {A : Option Addr} {l c : Nat} {xs : List Int} (h : SlIs intR w A l c xs) (hk : Kept M w B) (ho : Off M A l) : SlIs intR B A l c xs := by
 refine ⟨h.1,h.2.1,h.2.2.1,fun hn => ?_⟩
 obtain ⟨ad,e,hl,hc⟩ := h.2.2.2 hn
 refine ⟨ad,e,Nat.lt_of_lt_of_le hl hk.size,fun i x hx => ?_⟩
 obtain ⟨cs,hr,hcell⟩ := hc i x hx
 refine ⟨cs,hr,fun j u hu => hk.cell (hcell j u hu) ?_⟩
 have : (ad.add (i * intR.size + j)).block = ad.block := by unfold Addr.add; split <;> rfl
 rw [this]; exact ho hn ad e
theorem SlIs.blk_lt {α : Type} {R : Rep α} {w : World} {A : Option Addr} {l c : Nat} {xs : List α} (h : SlIs R w A l c xs) (h0 : 0 < l) {ad : Addr} (e : A = some ad) : ad.block < w.heap.size := by
 obtain ⟨ad',e',hl,_⟩ := h.2.2.2 h0
 rw [e] at e'; cases e'; exact hl
def GoodR (M : List Nat) (x : GRule) (args : Array Value) (W : World) : Prop :=
 ∃ (hA : Option Addr) (hl hc : Nat) (bA : Option Addr) (bl bc : Nat) (wA : Option Addr) (wl wc : Nat),args = #[ruleV x (.slice hA hl hc) (.slice bA bl bc) (.slice wA wl wc)] ∧ RuleIn W x hA hl hc bA bl bc wA wl wc ∧ Off M hA hl ∧ Off M bA bl ∧ Off M wA wl
theorem GoodR.go {M M1 : List Nat} {x : GRule} {args : Array Value} {A B : World} (h : GoodR M x args A) (hs : ∀ k ∈ M1,k ∈ M) (hk : Kept M A B) : GoodR M1 x args B := by
 obtain ⟨hA,hl,hc,bA,bl,bc,wA,wl,wc,e,hr,h1,h2,h3⟩ := h
 exact ⟨hA,hl,hc,bA,bl,bc,wA,wl,wc,e,⟨hr.head.keptM hk h1,hr.bound,hr.body.keptM hk h2,hr.wt.keptM hk h3⟩,h1.sub hs,h2.sub hs,h3.sub hs⟩
theorem GoodR.size {M : List Nat} {x : GRule} {args : Array Value} {W : World} (h : GoodR M x args W) : args.size = 1 := by
 obtain ⟨_,_,_,_,_,_,_,_,_,rfl,_⟩ := h; rfl
end Go.Proofs.YthdjkenhkedjjaaGreat
namespace Go.Proofs.YthdjkenhkedjjaaGreat
open Go.RowKit
variable {F : Fence} {n : Nat} {P : Program}
theorem wpIn_rangeM {α : Type} {g : Operand} {ps : Array Tmp} {assign body : Code} {Q : Exit → Act → World → Prop} {a : Act} {w : World}
  (hro : F.round = none) (h1 : 1 ≤ n) {gf : Nat} {lb : Array Value} (hg : a.eval g = .func (.func gf) #[] lb) (hFg : F.fn gf) (eg : ∀ args w,(callFunc gf args).run P w = .ok (.enter gf args) w)
  {Good : List Nat → α → Array Value → World → Prop} {xs : List α} {M0 : List Nat} (hit : IterM F (n - 1) P gf lb Good xs M0 w)
  (hps : ∀ M x args W,Good M x args W → args.size = ps.size)
  (hG : ∀ M M1 x args A B,Good M x args A → (∀ k ∈ M1,k ∈ M) → Kept M A B → Good M1 x args B)
  (I : List Nat → List α → World → Prop) (Ix : Code → List α → World → Prop)
  (hIb : ∀ M pre A B,I M pre A → Below A.heap.size A B → I M pre B) (hIxb : ∀ c pre A B,Ix c pre A → Below A.heap.size A B → Ix c pre B)
  (hI : ∀ M pre A B k,w.heap.size ≤ k → I M pre A → (∀ o,A.heap[k]? = some o → o.isCells = false) → Kept [k] A B → I M pre B)
  (hIx : ∀ c pre A B k,w.heap.size ≤ k → Ix c pre A → (∀ o,A.heap[k]? = some o → o.isCells = false) → Kept [k] A B → Ix c pre B)
  (hIM : ∀ M pre W,I M pre W → ∀ k ∈ M,∃ o,W.heap[k]? = some o ∧ o.isCells = true)
  (h0 : I M0 [] w) (Ax : α → Array Value → Act → World → Prop)
  (hAx : ∀ x args a' A B k,Ax x args a' A → (∀ o,A.heap[k]? = some o → o.isCells = false) → Kept [k] A B → Ax x args a' B)
  (hassign : ∀ (l : Nat) (M : List Nat) (pre : List α) (x : α) (args : Array Value) (W : World) (K : Act → World → Prop),I M pre W → Good M x args W → (∀ a' W',Below W.heap.size W W' → Ax x args a' W' → K a' W') →
   assign.wpIn (F.inRound l) (n - 1 - 1) P (Exit.then K (fun _ _ _ => False)) { tmps := (ps.zip args).foldl (fun t (p,v) => t.setIfInBounds p v) a.tmps,defers := [] } W)
  (hbody : ∀ (l : Nat) (M : List Nat) (pre : List α) (x : α) (args : Array Value) (a' : Act) (W : World),I M pre W → pre ++ [x] <+: xs → Good M x args W → Ax x args a' W → body.wpIn (F.inRound l) (n - 1 - 1) P (postM I Ix M (pre ++ [x]) W) a' W)
  (hdone : ∀ (D : Nat) (M : List Nat) (W : World),w.heap.size ≤ D → I M xs W → W.heap[D]? = some (.deferred (some [])) → Q .normal { a with defers := { target := .collected D,args := #[] } :: a.defers } W)
  (hstop : ∀ (D : Nat) (c : Code) (pre : List α) (W : World),w.heap.size ≤ D → pre <+: xs → Ix c pre W → W.heap[D]? = some (.deferred (some [])) → c.wpIn F n P Q { a with defers := { target := .collected D,args := #[] } :: a.defers } W) :
  (Code.rangeFunc g ps assign body).wpIn F n P Q a w := by
 refine wpIn_rangeFunc ?_
 intro fn hfn
 rw [hro]
 obtain ⟨rec,hrec⟩ : ∃ rec : LoopState → Option Code → Loop,rec = fun st pe => { state := st,pending := pe,fn,tmps := a.tmps,params := ps,assign,body,defers := w.heap.size } := ⟨_,rfl⟩
 obtain ⟨W1,hW1⟩ : ∃ W1,(w.alloc (.deferred (some []))).alloc (.loop (rec .ready none)) = W1 := ⟨_,rfl⟩
 have hL1 : W1.heap[w.heap.size + 1]? = some (.loop (rec .ready none)) := by
  rw [← hW1]; have := World.alloc_heap_new (w.alloc (.deferred (some []))) (.loop (rec .ready none)); rwa [World.size_alloc] at this
 have hK1 : W1.heap[w.heap.size]? = some (.deferred (some [])) := by
  rw [← hW1]; exact (Below.heap_alloc _ _ _ (by simp)).trans (World.alloc_heap_new w _)
 have hbw : Below w.heap.size w W1 := by rw [← hW1]; exact ((Below.refl _ w).alloc (Nat.le_refl _) _).alloc (by simp) _
 have hI1 : I M0 [] W1 := hIb _ _ _ _ h0 hbw
 refine ⟨w.heap.size + 1,[{ target := .collected w.heap.size,args := #[] }],W1,{ target := .fn (.func gf) lb,args := #[.func (.yield (w.heap.size + 1)) #[] #[]] },W1,gf,
  #[.func (.yield (w.heap.size + 1)) #[] #[]] ++ lb,W1,?_,?_,?_,?_,fun _ => h1,?_⟩
 ·rw [← hW1,hrec]; exact run_enterLoop_outer _ _ _ _ _
 ·simp only [resolve,hg]
  simp [go_sem]
 ·intro f' hf'; simp [Target.leads] at hf'; subst hf'; exact hFg
 ·simp [invoke,go_sem,eg]
 ·refine (hit (w.heap.size + 1)
   (fun M pre W => ∃ M1,M = (w.heap.size + 1) :: M1 ∧ I M1 pre W ∧ W.heap[w.heap.size + 1]? = some (.loop (rec .ready none)) ∧ W.heap[w.heap.size]? = some (.deferred (some [])))
   (fun pre W => ∃ c,Ix c pre W ∧ W.heap[w.heap.size + 1]? = some (.loop (rec .done (some c))) ∧ W.heap[w.heap.size]? = some (.deferred (some [])))
   ((w.heap.size + 1) :: M0) W1
   (fun M pre A B hs hb => by
    obtain ⟨M1,rfl,hi,hl,hk⟩ := hs
    exact ⟨M1,rfl,hIb _ _ _ _ hi hb,(hb.block _ (Array.getElem?_eq_some_iff.1 hl).1).trans hl,(hb.block _ (Array.getElem?_eq_some_iff.1 hk).1).trans hk⟩)
   (fun pre A B hs hb => by
    obtain ⟨c,hc,hl,hk⟩ := hs
    exact ⟨c,hIxb _ _ _ _ hc hb,(hb.block _ (Array.getElem?_eq_some_iff.1 hl).1).trans hl,(hb.block _ (Array.getElem?_eq_some_iff.1 hk).1).trans hk⟩)
   (fun M pre A hs k hk => by
    obtain ⟨M1,rfl,hi,hl,hkk⟩ := hs
    rcases List.mem_cons.1 hk with rfl | hk
    ·exact (Array.getElem?_eq_some_iff.1 hl).1
    ·obtain ⟨o,ho,_⟩ := hIM _ _ _ hi k hk
     exact (Array.getElem?_eq_some_iff.1 ho).1)
   ?_ ⟨M0,rfl,hI1,hL1,hK1⟩ hbw (fun k hk => by
    rcases List.mem_cons.1 hk with rfl | hk
    ·exact .inr (by omega)
    ·exact .inl hk)).mono ?_
  ·rintro M pre x args W ⟨M1,rfl,hi,hl,hk⟩ hpf hgd
   have hy := run_yield (P := P) (args := args) hl (by rw [hrec]; exact hps _ _ _ _ hgd)
   rw [hrec] at hy
   have hgd1 := hG _ M1 _ _ _ _ hgd (fun k hk => List.mem_cons_of_mem _ hk) (Kept.refl _ _)
   refine ⟨fn,_,assign,body,hy,roundIn_of_wpIn hfn (hassign _ M1 pre x args W _ hi hgd1 ?_)⟩
   clear hy
   intro a' Wa hba hax
   have hla := (hba.block _ (Array.getElem?_eq_some_iff.1 hl).1).trans hl
   have hka := (hba.block _ (Array.getElem?_eq_some_iff.1 hk).1).trans hk
   have hia := hIb _ _ _ _ hi hba
   have hlt : w.heap.size + 1 < Wa.heap.size := (Array.getElem?_eq_some_iff.1 hla).1
   refine ⟨_,run_beginRound hla (by rw [hrec]),?_⟩
   obtain ⟨Wb,hWb⟩ : ∃ Wb,Wa.putObj (w.heap.size + 1) (.loop { rec .ready none with state := .busy }) = Wb := ⟨_,rfl⟩
   have hkb : Kept [w.heap.size + 1] Wa Wb := by rw [← hWb]; exact kept_putObj _ _ _
   have hlb : Wb.heap[w.heap.size + 1]? = some (.loop { rec .ready none with state := .busy }) := by rw [← hWb]; exact World.putObj_heap_same hlt
   have hdb : Wb.heap[w.heap.size]? = some (.deferred (some [])) := by rw [← hWb]; exact (World.putObj_heap_other (by omega)).trans hka
   have hnc : ∀ o,Wa.heap[w.heap.size + 1]? = some o → o.isCells = false := fun o ho => by rw [hla] at ho; cases ho; rfl
   have hib := hI _ _ _ _ _ (by omega) hia hnc hkb
   have hgb := hG _ M1 _ _ _ _ hgd (fun k hk => List.mem_cons_of_mem _ hk) ((Kept.of_below hba _).trans (hkb.more (T := (w.heap.size + 1) :: M1) (fun k hk => by simp at hk; simp [hk])))
   rw [hWb]
   refine wpIn_mono (hbody _ M1 pre x args a' Wb hib hpf hgb (hAx _ _ _ _ _ _ hax hnc hkb)) ?_
   have hlM : w.heap.size + 1 ∉ M1 := fun hm => by
    obtain ⟨o,ho,hc⟩ := hIM _ _ _ hi _ hm
    rw [hl] at ho; cases ho; cases hc
   have hdM : w.heap.size ∉ M1 := fun hm => by
    obtain ⟨o,ho,hc⟩ := hIM _ _ _ hi _ hm
    rw [hk] at ho; cases ho; cases hc
   have fin : ∀ (jump : Option Code) (W3 : World),Kept M1 Wb W3 →
     (Instr.endRound (w.heap.size + 1) jump).run P W3 = .ok (.bool jump.isNone) (W3.putObj (w.heap.size + 1) (.loop (rec (if jump.isNone then .ready else .done) jump))) ∧
     W3.heap[w.heap.size + 1]? = some (.loop { rec .ready none with state := .busy }) ∧
     (W3.putObj (w.heap.size + 1) (.loop (rec (if jump.isNone then .ready else .done) jump))).heap[w.heap.size + 1]? = some (.loop (rec (if jump.isNone then .ready else .done) jump)) ∧
     (W3.putObj (w.heap.size + 1) (.loop (rec (if jump.isNone then .ready else .done) jump))).heap[w.heap.size]? = some (.deferred (some [])) := fun jump W3 hk3 => by
    have hl3 := (hk3.block _ (Array.getElem?_eq_some_iff.1 hlb).1 hlM).trans hlb
    have hd3 := (hk3.block _ (Array.getElem?_eq_some_iff.1 hdb).1 hdM).trans hdb
    have := run_endRound (P := P) jump hl3
    rw [hrec] at this ⊢
    exact ⟨this,by rw [hrec] at hl3; exact hl3,World.putObj_heap_same (Array.getElem?_eq_some_iff.1 hl3).1,(World.putObj_heap_other (by omega)).trans hd3⟩
   have lv : ∀ (c : Code) (W3 : World),Ix c (pre ++ [x]) W3 → Kept M1 Wb W3 → ∃ v w',(Instr.endRound (w.heap.size + 1) (some c)).run P W3 = .ok v w' ∧
     ((Ending.returned v = .returned (.bool true) ∧ ∃ M',(∃ M1',M' = (w.heap.size + 1) :: M1' ∧ I M1' (pre ++ [x]) w' ∧ w'.heap[w.heap.size + 1]? = some (.loop (rec .ready none)) ∧ w'.heap[w.heap.size]? = some (.deferred (some []))) ∧ Kept ((w.heap.size + 1) :: M1) W w' ∧ (∀ k ∈ M',k ∈ (w.heap.size + 1) :: M1 ∨ W.heap.size ≤ k)) ∨
      (Ending.returned v = .returned (.bool false) ∧ ∃ c,Ix c (pre ++ [x]) w' ∧ w'.heap[w.heap.size + 1]? = some (.loop (rec .done (some c))) ∧ w'.heap[w.heap.size]? = some (.deferred (some [])))) := fun c W3 hx hk3 => by
    obtain ⟨hr,hl3,hl4,hk4⟩ := fin (some c) W3 hk3
    exact ⟨_,_,hr,.inr ⟨rfl,c,hIx _ _ _ _ _ (by omega) hx (fun o ho => by rw [hl3] at ho; cases ho; rfl) (kept_putObj _ _ _),hl4,hk4⟩⟩
   rintro e a3 W3 hp
   cases e with
   | normal =>
    obtain ⟨M',hi3,hk3,hm3⟩ := hp
    obtain ⟨hr,hl3,hl4,hk4⟩ := fin none W3 hk3
    have hkf : Kept ((w.heap.size + 1) :: M1) W (W3.putObj (w.heap.size + 1) (.loop (rec .ready none))) :=
     (((Kept.of_below hba _).trans (hkb.more (fun k hk => by simp at hk; simp [hk]))).trans (hk3.more (fun k hk => List.mem_cons_of_mem _ hk))).trans ((kept_putObj _ _ _).more (fun k hk => by simp at hk; simp [hk]))
    refine ⟨_,_,hr,.inl ⟨rfl,(w.heap.size + 1) :: M',⟨M',rfl,hI _ _ _ _ _ (by omega) hi3 (fun o ho => by rw [hl3] at ho; cases ho; rfl) (kept_putObj _ _ _),hl4,hk4⟩,hkf,fun k hk => ?_⟩⟩
    rcases List.mem_cons.1 hk with rfl | hk
    ·exact .inl (by simp)
    ·rcases hm3 k hk with h | h
     ·exact .inl (List.mem_cons_of_mem _ h)
     ·exact .inr (Nat.le_trans (Nat.le_trans hba.size hkb.size) h)
   | ret => exact lv _ _ hp.1 hp.2
   | exit id => exact lv _ _ hp.1 hp.2
   | goto t => exact lv _ _ hp.1 hp.2
   | panic ch => exact hp.elim
   | outgrown => exact hp.elim
  ·rintro e W2 ⟨⟨v,rfl⟩,(⟨M',M1,_,hi,hl,hk⟩ | ⟨pre,hpre,c,hi,hl,hk⟩)⟩
   ·exact ⟨none,_,by have := run_endLoop (P := P) hl (by rw [hrec]; simp); rw [hrec] at this; exact this,hdone _ M1 _ (Nat.le_refl _) (hI _ _ _ _ _ (by omega) hi (fun o ho => by rw [hl] at ho; cases ho; rfl) (kept_putObj _ _ _)) ((World.putObj_heap_other (by omega)).trans hk)⟩
   ·exact ⟨some c,_,by have := run_endLoop (P := P) hl (by rw [hrec]; simp); rw [hrec] at this; exact this,hstop _ c pre _ (Nat.le_refl _) hpre (hIx _ _ _ _ _ (by omega) hi (fun o ho => by rw [hl] at ho; cases ho; rfl) (kept_putObj _ _ _)) ((World.putObj_heap_other (by omega)).trans hk)⟩
theorem wpListIn_append_run {ops : Array Oper} {rest : List Oper} {o : Oper} {a : Act} {w : World} {Q : Exit → Act → World → Prop} (hg : o.guard = none) (s x : Operand) (t : TypeId)
  (ho : o.op = .call { callee := .builtin .append,args := #[s,x],argTypes := #[t,t] }) (v u : Value) (hs : a.eval s = v) (hx : a.eval x = u)
  (v' : Value) (w' : World) (hrun : (Builtin.append_ #[t,t] o.type #[v,u]).run P w = .ok v' w') (h : wpListIn F n P ops Q rest (a.put o.dst v') w') : wpListIn F n P ops Q (o :: rest) a w :=
 wpListIn_plain hg fun _ hK => by
  unfold Oper.wpIn
  refine ⟨?_,?_⟩
  ·simp [Oper.about,ho,resolve,Target.leads,Sem.run_pure]
  ·rw [Oper.semAt_plain F _ _ (by rw [ho]; intro c hc'; cases hc')]
   simp [execOp,ho,resolve,invoke,builtin,hs,hx,hrun,Result.andThen]
   exact hK _ _ h
theorem cells_of_cell {w : World} {b o : Nat} {v : Value} (h : w.cell? ⟨b,o,none⟩ = some v) : ∃ ob,w.heap[b]? = some ob ∧ ob.isCells = true := by
 unfold World.cell? at h
 cases hb : w.heap[b]? with
 | none => rw [hb] at h; simp at h
 | some ob =>
  rw [hb] at h
  cases ob <;> first | exact ⟨_,rfl,rfl⟩ | (simp at h)
theorem SlIs.offN {w : World} {A : Option Addr} {l c : Nat} {xs : List Int} (h : SlIs intR w A l c xs) {k : Nat} (hn : ∀ o,w.heap[k]? = some o → o.isCells = false) : Off [k] A l := fun h0 ad e hm => by
 have hl := h.1
 have hx : xs[0]? = some xs[0] := List.getElem?_eq_getElem (by omega)
 obtain ⟨b,off,e2,_,hc,_⟩ := h.int hx
 rw [e] at e2; cases e2
 obtain ⟨ob,h1,h2⟩ := cells_of_cell hc
 simp at hm; subst hm
 rw [hn _ h1] at h2; cases h2
theorem RuleIn.keptM {M : List Nat} {w B : World} {r : GRule} {hA bA wA : Option Addr} {hl hc bl bc wl wc : Nat} (h : RuleIn w r hA hl hc bA bl bc wA wl wc) (hk : Kept M w B) (h1 : Off M hA hl) (h2 : Off M bA bl) (h3 : Off M wA wl) : RuleIn B r hA hl hc bA bl bc wA wl wc :=
 ⟨h.head.keptM hk h1,h.bound,h.body.keptM hk h2,h.wt.keptM hk h3⟩
theorem ownsRow_keptS {w w' : World} {base size : Nat} {e : TypeId} {v : Value} {l : Nat} {cs : List Value} {S : List Nat} (h : w.ownsRow base e size v l cs) (hk : Kept S w w') (hne : ∀ k,v.ownBlock = some k → k ∉ S) : w'.ownsRow base e size v l cs := by
 refine ⟨h.1,?_⟩
 rcases h.2 with h2 | ⟨g,cap,cur,rfl,b,c,d⟩
 ·exact .inl h2
 ·exact .inr ⟨g,cap,cur,rfl,b,(hk.block g (h.lt g rfl).2 (hne g rfl)).trans c,d⟩
theorem info_ruleF : (Tryz.prog.info? 42).map (fun i => (i.zero,i.size,i.bytes)) = some (some (.agg #[.bool false,.slice none 0 0,.bool false,.int .i64 0,.slice none 0 0,.slice none 0 0]),6,96) := by kernel_rfl
theorem appR {w : World} {base : Nat} {v : Value} {l : Nat} {cs : List Value} (h : w.ownsRow base 42 6 v l cs) (c0 c1 c2 c3 c4 c5 : Value) (h1 : ∀ u ∈ [c0,c1,c2,c3,c4,c5],u.oneCell' = true) (hs : l < 1099511627776) (hb : base ≤ w.heap.size) (ty : TypeId) :
  ∃ v' w',(Builtin.append_ #[24,24] ty #[v,.slice (some ⟨w.heap.size,0,none⟩) 1 1]).run Tryz.prog (w.alloc (.cells #[c0,c1,c2,c3,c4,c5] 42)) = .ok v' w' ∧ w'.ownsRow base 42 6 v' (l + 1) (cs ++ [c0,c1,c2,c3,c4,c5]) ∧ w.grownBy w' v.ownBlock ∧
   (∀ k,v'.ownBlock = some k → v.ownBlock = some k ∨ w.heap.size ≤ k) := by
 obtain ⟨i0,hi0,hz0,hz1,hz2⟩ := info_parts info_ruleF
 obtain ⟨v',w',hrun,h2,h3,_,h5⟩ := run_append_own_at (P := Tryz.prog) (w.alloc (.cells #[c0,c1,c2,c3,c4,c5] 42)) base 24 ty 42 i0 _ 6 96 Tryz.underlying24 hi0 hz0 hz1 hz2 rfl (by omega) v l _ (h.alloc _) ⟨w.heap.size,0,none⟩ 1 1 [c0,c1,c2,c3,c4,c5] rfl
  (by intro j u hj; match j,hj with
    | 0,hj => simp at hj; subst hj; simp [Addr.add]
    | 1,hj => simp at hj; subst hj; simp [Addr.add]
    | 2,hj => simp at hj; subst hj; simp [Addr.add]
    | 3,hj => simp at hj; subst hj; simp [Addr.add]
    | 4,hj => simp at hj; subst hj; simp [Addr.add]
    | 5,hj => simp at hj; subst hj; simp [Addr.add]
    | j + 6,hj => simp at hj) h1 (by unfold maxLen; omega) (by omega) (by simp; omega)
 refine ⟨v',w',hrun,h2,⟨h3.os,h3.tape,h3.output,Nat.le_trans (by simp) h3.size,fun k hk hne => ?_⟩,fun k hk => ?_⟩
 ·rw [h3.block k (by simp; omega) hne]; exact Below.heap_alloc w _ k hk
 ·rcases h5 with h5 | h5 <;> rw [h5] at hk
  ·exact .inl hk
  ·simp at hk; exact .inr (by omega)
end Go.Proofs.YthdjkenhkedjjaaGreat
namespace Go.Proofs.YthdjkenhkedjjaaGreat
open Go.RowKit Go.Shelf
attribute [local go_sem] Oper.semAt_some
def OutRow (W : World) (base : Nat) (v : Value) (cs : List Value) (M : List Nat) (pre : List GRule) : Prop :=
 W.ownsRow base 42 6 v pre.length cs ∧ ∀ i x,pre[i]? = some x → ∃ (hA : Option Addr) (hl hc : Nat) (bA : Option Addr) (bl bc : Nat) (wA : Option Addr) (wl wc : Nat),
  (cs.drop (i * 6)).take 6 = [.bool x.choice,.slice hA hl hc,.bool x.sum,.int .i64 x.bound,.slice bA bl bc,.slice wA wl wc] ∧ RuleIn W x hA hl hc bA bl bc wA wl wc ∧ Off M hA hl ∧ Off M bA bl ∧ Off M wA wl
def MOf (B0 : Nat) (v : Value) : List Nat := B0 :: v.ownBlock.toList
def RI (w : World) (B0 base : Nat) (M : List Nat) (pre : List GRule) (W : World) : Prop :=
 ∃ v cs,M = MOf B0 v ∧ Blk W B0 24 #[v] ∧ OutRow W base v cs M pre ∧ Below w.heap.size w W ∧ base ≤ W.heap.size
theorem MOf_mem {B0 k : Nat} {v : Value} (h : k ∈ MOf B0 v) : k = B0 ∨ v.ownBlock = some k := by
 unfold MOf at h
 rcases List.mem_cons.1 h with h | h
 ·exact .inl h
 ·right; cases hv : v.ownBlock with
  | none => rw [hv] at h; simp at h
  | some q => rw [hv] at h; simp at h; rw [h]
theorem blk_ne {W : World} {g k : Nat} {t : TypeId} {cs : Array Value} (h : Blk W g t cs) (hn : ∀ o,W.heap[k]? = some o → o.isCells = false) : k ≠ g := fun e => by
 subst e; have := hn _ h; cases this
theorem own_ne {W : World} {base e size l : Nat} {v : Value} {cs : List Value} (h : W.ownsRow base e size v l cs) {k : Nat} (hn : ∀ o,W.heap[k]? = some o → o.isCells = false) : v.ownBlock ≠ some k := fun hv => by
 rcases h.2 with ⟨rfl,_⟩ | ⟨g,cap,cur,rfl,_,hg,_⟩
 ·simp [Value.ownBlock] at hv
 ·have : g = k := by simpa [Value.ownBlock] using hv
  subst this; have := hn _ hg; cases this
theorem OutRow.keep {base : Nat} {v : Value} {cs : List Value} {M : List Nat} {pre : List GRule} {A B : World} {k : Nat} (h : OutRow A base v cs M pre) (hn : ∀ o,A.heap[k]? = some o → o.isCells = false) (hk : Kept [k] A B) : OutRow B base v cs M pre := by
 obtain ⟨ho,hr⟩ := h
 refine ⟨ownsRow_keptS ho hk (fun q hq hm => by simp at hm; subst hm; exact own_ne ho hn hq),fun i x hx => ?_⟩
 obtain ⟨hA,hl,hc,bA,bl,bc,wA,wl,wc,h1,h2,h3,h4,h5⟩ := hr i x hx
 exact ⟨hA,hl,hc,bA,bl,bc,wA,wl,wc,h1,h2.keptM hk (h2.head.offN hn) (h2.body.offN hn) (h2.wt.offN hn),h3,h4,h5⟩
theorem RI.keep {w : World} {B0 base : Nat} {M : List Nat} {pre : List GRule} {A B : World} {k : Nat} (h : RI w B0 base M pre A) (hn : ∀ o,A.heap[k]? = some o → o.isCells = false) (hk : Kept [k] A B) (hkw : w.heap.size ≤ k) : RI w B0 base M pre B := by
 obtain ⟨v,cs,rfl,hb,⟨ho,hr⟩,hw,hbs⟩ := h
 refine ⟨v,cs,rfl,hk.blk hb (by have := blk_ne hb hn; simp; omega),⟨ownsRow_keptS ho hk (fun q hq hm => by simp at hm; subst hm; exact own_ne ho hn hq),fun i x hx => ?_⟩,Kept.below hw hk hw.size (fun q hq => by simp at hq; omega),Nat.le_trans hbs hk.size⟩
 obtain ⟨hA,hl,hc,bA,bl,bc,wA,wl,wc,h1,h2,h3,h4,h5⟩ := hr i x hx
 exact ⟨hA,hl,hc,bA,bl,bc,wA,wl,wc,h1,h2.keptM hk (h2.head.offN hn) (h2.body.offN hn) (h2.wt.offN hn),h3,h4,h5⟩
theorem RI.cells {w : World} {B0 base : Nat} {M : List Nat} {pre : List GRule} {W : World} (h : RI w B0 base M pre W) : ∀ k ∈ M,∃ o,W.heap[k]? = some o ∧ o.isCells = true := by
 obtain ⟨v,cs,rfl,hb,⟨ho,_⟩,_⟩ := h
 intro k hk
 rcases MOf_mem hk with rfl | hv
 ·exact ⟨_,hb,rfl⟩
 ·rcases ho.2 with ⟨rfl,_⟩ | ⟨g,cap,cur,rfl,_,hg,_⟩
  ·simp [Value.ownBlock] at hv
  ·have : g = k := by simpa [Value.ownBlock] using hv
   subst this; exact ⟨_,hg,rfl⟩
theorem RI.bel {w : World} {B0 base : Nat} {M : List Nat} {pre : List GRule} {A B : World} (h : RI w B0 base M pre A) (hb : Below A.heap.size A B) : RI w B0 base M pre B := by
 have hw := h
 obtain ⟨v,cs,rfl,hb1,ho,hbw,_⟩ := hw
 exact h.keep (k := A.heap.size) (fun o e => by simp at e) (Kept.of_below hb _) hbw.size
theorem OutRow.sl {W : World} {base : Nat} {v : Value} {cs : List Value} {M : List Nat} {pre : List GRule} (h : OutRow W base v cs M pre) (hs : pre.length ≤ 17592186044416) : ∃ A c,v = .slice A pre.length c ∧ SlIs ruleR W A pre.length c pre :=
 SlIs.of_own (R := ruleR) h.1 rfl hs (fun i x hx => by
  obtain ⟨hA,hl,hc,bA,bl,bc,wA,wl,wc,h1,h2,_⟩ := h.2 i x hx
  exact ⟨.slice hA hl hc,.slice bA bl bc,.slice wA wl wc,h1,⟨hA,hl,hc,rfl,h2.head⟩,h2.bound,⟨bA,bl,bc,rfl,h2.body⟩,⟨wA,wl,wc,rfl,h2.wt⟩⟩)
theorem OutRow.snoc {W V : World} {base : Nat} {v v' : Value} {cs : List Value} {M M' : List Nat} {pre : List GRule} {x : GRule} {hA : Option Addr} {hl hc : Nat} {bA : Option Addr} {bl bc : Nat} {wA : Option Addr} {wl wc : Nat}
  (h : OutRow W base v cs M pre) (hx : RuleIn W x hA hl hc bA bl bc wA wl wc) (o1 : Off M hA hl) (o2 : Off M bA bl) (o3 : Off M wA wl)
  (hV : V.ownsRow base 42 6 v' (pre.length + 1) (cs ++ [.bool x.choice,.slice hA hl hc,.bool x.sum,.int .i64 x.bound,.slice bA bl bc,.slice wA wl wc])) (hk : Kept M W V) (hm : ∀ k ∈ M',k ∈ M ∨ W.heap.size ≤ k) : OutRow V base v' (cs ++ [.bool x.choice,.slice hA hl hc,.bool x.sum,.int .i64 x.bound,.slice bA bl bc,.slice wA wl wc]) M' (pre ++ [x]) := by
 have off : ∀ {A : Option Addr} {l c : Nat} {xs : List Int},SlIs intR W A l c xs → Off M A l → Off M' A l := fun hs ho h0 ad e hq => by
  rcases hm _ hq with h1 | h1
  ·exact ho h0 ad e h1
  ·have := hs.blk_lt h0 e; omega
 have hcl : cs.length = pre.length * 6 := h.1.1
 refine ⟨by simpa using hV,fun i z hz => ?_⟩
 rcases Nat.lt_trichotomy i pre.length with hi | hi | hi
 ·rw [List.getElem?_append_left hi] at hz
  obtain ⟨hA,hl,hc,bA,bl,bc,wA,wl,wc,h1,h2,h3,h4,h5⟩ := h.2 i z hz
  refine ⟨hA,hl,hc,bA,bl,bc,wA,wl,wc,?_,h2.keptM hk h3 h4 h5,off h2.head h3,off h2.body h4,off h2.wt h5⟩
  rw [List.drop_append_of_le_length (by omega),List.take_append_of_le_length (by rw [List.length_drop]; omega)]; exact h1
 ·subst hi
  simp at hz; subst hz
  refine ⟨hA,hl,hc,bA,bl,bc,wA,wl,wc,?_,hx.keptM hk o1 o2 o3,off hx.head o1,off hx.body o2,off hx.wt o3⟩
  rw [← hcl,List.drop_left]; rfl
 ·rw [List.getElem?_eq_none (by simp; omega)] at hz; cases hz
end Go.Proofs.YthdjkenhkedjjaaGreat
namespace Go.Proofs.YthdjkenhkedjjaaGreat
open Go.RowKit Go.Shelf
attribute [local go_sem] Oper.semAt_some
theorem sl_one {W : World} {H : Nat} {y : Int} (h : Blk W H 3 #[.int .i64 y]) (hy : I64 y) : SlIs intR W (some ⟨H,0,none⟩) 1 1 [y] := by
 refine ⟨rfl,Nat.le_refl _,⟨by unfold maxLen; omega,by omega⟩,fun _ => ⟨_,rfl,h.lt,fun i x hx => ?_⟩⟩
 match i,hx with
 | 0,hx =>
  simp at hx; subst hx
  refine ⟨[.int .i64 y],⟨rfl,hy⟩,fun j u hu => ?_⟩
  match j,hu with
  | 0,hu => simp at hu; subst hu; rw [add_none]; exact h.cell 0
  | j + 1,hu => simp at hu
 | i + 1,hx => simp at hx
end Go.Proofs.YthdjkenhkedjjaaGreat
namespace Go.Proofs.YthdjkenhkedjjaaGreat
open Go.RowKit Go.Shelf
attribute [local go_sem] Oper.semAt_some
theorem MemIn.keptM {A B : World} {a B0 : Nat} {t : TypeId} {ms : List Int} {M : List Nat} (h : MemIn A a ms) (hk : Kept M A B) (hb : Blk A B0 t #[.slice none 0 0]) (hM : ∀ k ∈ M,k = B0 ∨ A.heap.size ≤ k) : MemIn B a ms := by
 obtain ⟨Bm,n,f,h1,h2,h3⟩ := h
 have ha : a ∉ M := fun hm => by
  rcases hM _ hm with rfl | h
  ·have := hb.cell 0
   rw [h1] at this; simp at this
  ·have := World.block_lt_of_cell? _ _ h1; simp at this; omega
 have hB : Bm ∉ M := fun hm => by
  obtain ⟨D,⟨es,clock,hh,_⟩,_⟩ := h2
  rcases hM _ hm with rfl | h
  ·unfold Blk at hb; rw [hh] at hb; cases hb
  ·rw [Array.getElem?_eq_none h] at hh; cases hh
 refine ⟨Bm,n,f,hk.cell h1 ha,?_,h3⟩
 obtain ⟨D,⟨es,clock,hh,r1⟩,r2⟩ := h2
 exact ⟨D,⟨es,clock,(hk.block _ (Array.getElem?_eq_some_iff.1 hh).1 hB).trans hh,r1⟩,r2⟩
end Go.Proofs.YthdjkenhkedjjaaGreat

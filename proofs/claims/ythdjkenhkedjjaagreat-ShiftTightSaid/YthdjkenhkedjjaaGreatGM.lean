/- Several texts in one: Exr, Rns, Sta. -/
import Derived.Test.YthdjkenhkedjjaaGreatGS
namespace Go.Proofs.YthdjkenhkedjjaaGreat
open Go.RowKit
theorem own_blkO {W : World} {B : Nat} {e : TypeId} {z n : Nat} {v : Value} {cs : List Value} (h : W.ownsRow B e z v n cs) {g : Nat} {t : TypeId} {c : Array Value} (hb : Blk W g t c) (ht : e ≠ t) : v.ownBlock ≠ some g := fun hk => by
 rcases h.2 with ⟨rfl,_⟩ | ⟨g',cap,cur,rfl,_,hg,_⟩
 ·simp [Value.ownBlock] at hk
 ·simp [Value.ownBlock] at hk
  subst hk
  have := hg.symm.trans hb
  simp at this
  exact ht this.2
theorem info_prog' : (Tryz.prog.info? 27).map (·.size) = some 5 := by kernel_rfl
section
variable {α : Type} {R : Rep α} {e : TypeId} {W : World} {S : List Nat} {B : Nat} {v : Value} {xs : List α}
theorem RowO.apart {β : Type} {R' : Rep β} {e' : TypeId} {S' : List Nat} {B' : Nat} {v' : Value} {ys : List β} (h : RowO R e S B W v xs) (h' : RowO R' e' S' B' W v' ys) (he : e ≠ e') : ∀ q,v.ownBlock = some q → v'.ownBlock ≠ some q := fun q h1 h2 => by
 obtain ⟨_,cs,a,_⟩ := h
 obtain ⟨_,cs',a',_⟩ := h'
 rcases a.2 with ⟨rfl,_⟩ | ⟨g,cap,cur,rfl,_,hh,_⟩
 ·simp [Value.ownBlock] at h1
 ·rcases a'.2 with ⟨rfl,_⟩ | ⟨g',cap',cur',rfl,_,hh',_⟩
  ·simp [Value.ownBlock] at h2
  ·have e1 : g = q := by simpa [Value.ownBlock] using h1
   have e2 : g' = q := by simpa [Value.ownBlock] using h2
   subst e1 e2
   rw [hh] at hh'
   injection hh' with hh'
   injection hh' with _ hh'
   exact he hh'
end
theorem wpList_append_run2 {P : Program} {ops : Array Oper} {rest : List Oper} {o : Oper} {a : Act} {w : World} {Q : Exit → Act → World → Prop} (hg : o.guard = none) (s x : Operand) (t t' : TypeId)
  (ho : o.op = .call { callee := .builtin .append,args := #[s,x],argTypes := #[t,t'] }) (v u : Value) (hs : a.eval s = v) (hx : a.eval x = u)
  (v' : Value) (w' : World) (hrun : (Builtin.append_ #[t,t'] o.type #[v,u]).run P w = .ok v' w') (h : wpList P ops Q rest (a.put o.dst v') w') : wpList P ops Q (o :: rest) a w :=
 wpList_plain hg fun _ hK => by
  unfold Oper.wp execOp
  simp only [ho,resolve,invoke,builtin,Sem.run_bind,Sem.run_pure,Result.andThen_ok,List.map_toArray,List.map_cons,List.map_nil,hs,hx,hrun]
  exact hK _ _ h
section
variable {α : Type} {R : Rep α} {e : TypeId} {W W' : World} {S S' T : List Nat} {B : Nat} {v : Value} {xs : List α}
theorem RowO.more (h : RowO R e S B W v xs) (hk : Kept T W W') (hT : ∀ k ∈ T,(k ∈ S ∨ W.heap.size ≤ k) ∧ v.ownBlock ≠ some k) (hS : ∀ k ∈ S',k ∈ S ∨ W.heap.size ≤ k ∨ v.ownBlock = some k) : RowO R e S' B W' v xs :=
 RowO.of (T := S ++ ownL v) (w0 := W) (RowK.kept h hk (fun k hk => ⟨(hT k hk).1.imp (fun h => List.mem_append.2 (.inl h)) id,(hT k hk).2⟩)) (fun k hk => by
  rcases hS k hk with h1 | h1 | h1
  ·exact .inl (List.mem_append.2 (.inl h1))
  ·exact .inr h1
  ·exact .inl (List.mem_append.2 (.inr (ownL_mem.2 h1))))
theorem RowO.lower (h : RowO R e S B W v xs) {B' : Nat} (hB : B' ≤ B) : RowO R e S B' W v xs := by
 obtain ⟨⟨a,b,c⟩,cs,⟨k1,k2⟩,d⟩ := h
 refine ⟨⟨a,Nat.le_trans hB b,c⟩,cs,⟨k1,?_⟩,d⟩
 rcases k2 with k2 | ⟨g,cap,cur,e1,e2,e3,e4⟩
 ·exact .inl k2
 ·exact .inr ⟨g,cap,cur,e1,Nat.le_trans hB e2,e3,e4⟩
theorem RowO.offBlk (h : RowO R e S B W v xs) {g : Nat} {t : TypeId} {c : Array Value} (hb : Blk W g t c) (ht : e ≠ t) : v.ownBlock ≠ some g := by
 obtain ⟨_,cs,a,_⟩ := h
 exact own_blkO a hb ht
end
end Go.Proofs.YthdjkenhkedjjaaGreat
namespace Go.Proofs.YthdjkenhkedjjaaGreat
open Go.RowKit
structure RenS (v0 : World) (PC QC : Array Value) (N : Int) (g : Nat) (S : List Nat) (nv sv rv mv : Value) (ns : List ByteArray) (sh : List Int) (rs : List GRule) (ms : List GMin) (W : World) : Prop where
 bel : Below v0.heap.size v0 W
 bp : Blk W v0.heap.size 27 PC
 bq : Blk W (v0.heap.size + 1) 23 QC
 be : Blk W (v0.heap.size + 2) 27 #[.int .i64 0,.slice none 0 0,.slice none 0 0,.slice none 0 0,.slice none 0 0]
 bx : Blk W g 27 #[.int .i64 N,nv,sv,rv,mv]
 rn : RowO strR 9 S (v0.heap.size + 3) W nv ns
 rh : Stab (slR intR) S W [sv] sh
 rr : RowO ruleR 42 S (v0.heap.size + 3) W rv rs
 rm : RowO minR 67 S (v0.heap.size + 3) W mv ms
 gS : g ∈ S
 eS : v0.heap.size + 2 ∈ S
 nS : ∀ k,nv.ownBlock = some k → k ∈ S
 rS : ∀ k,rv.ownBlock = some k → k ∈ S
 mS : ∀ k,mv.ownBlock = some k → k ∈ S
 gB : v0.heap.size + 3 ≤ g
 lo : ∀ k ∈ S,v0.heap.size + 2 ≤ k
 lt : ∀ k ∈ S,k < W.heap.size
section
variable {v0 : World} {PC QC : Array Value} {N : Int} {g : Nat} {S : List Nat} {nv sv rv mv : Value} {ns : List ByteArray} {sh : List Int} {rs : List GRule} {ms : List GMin} {W W' : World}
theorem RenS.ext (h : RenS v0 PC QC N g S nv sv rv mv ns sh rs ms W) (hb : Below W.heap.size W W') : RenS v0 PC QC N g S nv sv rv mv ns sh rs ms W' :=
 { h with bel := h.bel.trans (hb.mono h.bel.size),bp := h.bp.bel hb,bq := h.bq.bel hb,be := h.be.bel hb,bx := h.bx.bel hb,rn := h.rn.bel hb,rh := h.rh.go (Kept.of_below hb _) (fun _ h => .inl h),rr := h.rr.bel hb,rm := h.rm.bel hb,lt := fun k hk => Nat.lt_of_lt_of_le (h.lt k hk) hb.size }
theorem RenS.sz (h : RenS v0 PC QC N g S nv sv rv mv ns sh rs ms W) : v0.heap.size + 3 ≤ W.heap.size := h.rn.size
theorem RenS.off (h : RenS v0 PC QC N g S nv sv rv mv ns sh rs ms W) {A : Option Addr} {l : Nat} (hf : Frs W.heap.size A l) : Off S A l := hf.off h.lt
theorem RenS.names {ns' : List ByteArray} (h : RenS v0 PC QC N g S nv sv rv mv ns sh rs ms W) {v' : Value} (hr : RowO strR 9 S (v0.heap.size + 3) W' v' ns') (hg : W.grownBy W' nv.ownBlock) (hat : ∀ k,v'.ownBlock = some k → nv.ownBlock = some k ∨ W.heap.size ≤ k) :
  RenS v0 PC QC N g (S ++ ownL v') v' sv rv mv ns' sh rs ms (W'.setCell ⟨g,1,none⟩ v') := by
 have kW : Kept (ownL nv) W W' := grown_kept hg
 have kS : Kept [g] W' (W'.setCell ⟨g,1,none⟩ v') := (Kept.refl _ _).set (.inl (by simp)) _
 have n1 : g ∉ ownL nv := fun e => h.rn.offBlk h.bx (by decide) (ownL_mem.1 e)
 have nb : ∀ k,k < v0.heap.size + 3 → k ∉ ownL nv := fun k hk e => by have := (h.rn.lt (ownL_mem.1 e)).1; omega
 have bx1 := kW.blk h.bx n1
 have bx2 := bx1.set_ 1 v'
 have hgB := h.gB
 have hS3 := h.sz
 have t1 : ∀ {α : Type} {R : Rep α} {e : TypeId} {v : Value} {xs : List α},9 ≠ e → RowO R e S (v0.heap.size + 3) W v xs → ∀ k ∈ ownL nv,(k ∈ S ∨ W.heap.size ≤ k) ∧ v.ownBlock ≠ some k := fun he hv k hk => ⟨.inl (h.nS k (ownL_mem.1 hk)),h.rn.apart hv he k (ownL_mem.1 hk)⟩
 have t2 : ∀ k ∈ S ++ ownL v',k ∈ S ∨ W.heap.size ≤ k := fun k hk => by
  rcases List.mem_append.1 hk with h1 | h1
  ·exact .inl h1
  ·exact (hat k (ownL_mem.1 h1)).imp (h.nS k) id
 have t3 : ∀ {α : Type} {R : Rep α} {e : TypeId} {v : Value} {xs : List α},e ≠ 27 → RowO R e S (v0.heap.size + 3) W' v xs → ∀ k ∈ [g],(k ∈ S ∨ W'.heap.size ≤ k) ∧ v.ownBlock ≠ some k := fun he hv k hk => by
  simp at hk; subst hk
  exact ⟨.inl h.gS,hv.offBlk bx1 he⟩
 have go : ∀ {α : Type} {R : Rep α} {e : TypeId} {v : Value} {xs : List α},9 ≠ e → e ≠ 27 → RowO R e S (v0.heap.size + 3) W v xs → RowO R e (S ++ ownL v') (v0.heap.size + 3) (W'.setCell ⟨g,1,none⟩ v') v xs := fun he1 he2 hv =>
  ((hv.more kW (t1 he1 hv) (S' := S ++ ownL v') (fun k hk => (t2 k hk).imp id .inl))).more kS (fun k hk => ⟨.inl (List.mem_append.2 (.inl ((by simp at hk; subst hk; exact h.gS)))),(t3 he2 (hv.step kW (t1 he1 hv)) k hk).2⟩) (fun _ hk => .inl hk)
 have hsz : (W'.setCell ⟨g,1,none⟩ v').heap.size = W'.heap.size := by simp [World.setCell]
 have kk : Kept S W (W'.setCell ⟨g,1,none⟩ v') := (kW.more (T := S) (fun k hk => h.nS k (ownL_mem.1 hk))).thn (kS.more (T := S) (fun k hk => by simp at hk; subst hk; exact h.gS)) (fun k hk => .inl hk)
 exact ⟨Kept.below (Kept.below h.bel kW h.bel.size (fun k hk => by have := (h.rn.lt (ownL_mem.1 hk)).1; omega)) kS (Nat.le_trans h.bel.size hg.size) (fun k hk => by simp at hk; subst hk; omega),
  kS.blk (kW.blk h.bp (nb _ (by omega))) (by simp; omega),kS.blk (kW.blk h.bq (nb _ (by omega))) (by simp; omega),kS.blk (kW.blk h.be (nb _ (by omega))) (by simp; omega),bx2,
  hr.more kS (t3 (by decide) hr) (fun k hk => by
   rcases List.mem_append.1 hk with h1 | h1
   ·exact .inl h1
   ·exact .inr (.inr (ownL_mem.1 h1))),h.rh.go kk t2,go (by decide) (by decide) h.rr,go (by decide) (by decide) h.rm,
  List.mem_append.2 (.inl h.gS),List.mem_append.2 (.inl h.eS),fun k hk => List.mem_append.2 (.inr (ownL_mem.2 hk)),fun k hk => List.mem_append.2 (.inl (h.rS k hk)),fun k hk => List.mem_append.2 (.inl (h.mS k hk)),h.gB,fun k hk => by
   rcases List.mem_append.1 hk with h1 | h1
   ·exact h.lo k h1
   ·have := (hr.lt (ownL_mem.1 h1)).1; omega,fun k hk => by
   rw [hsz]
   rcases List.mem_append.1 hk with h1 | h1
   ·exact Nat.lt_of_lt_of_le (h.lt k h1) hg.size
   ·exact (hr.lt (ownL_mem.1 h1)).2⟩
theorem RenS.rules {rs' : List GRule} (h : RenS v0 PC QC N g S nv sv rv mv ns sh rs ms W) {v' : Value} (hr : RowO ruleR 42 S (v0.heap.size + 3) W' v' rs') (hg : W.grownBy W' rv.ownBlock) (hat : ∀ k,v'.ownBlock = some k → rv.ownBlock = some k ∨ W.heap.size ≤ k) :
  RenS v0 PC QC N g (S ++ ownL v') nv sv v' mv ns sh rs' ms (W'.setCell ⟨g,3,none⟩ v') := by
 have kW : Kept (ownL rv) W W' := grown_kept hg
 have kS : Kept [g] W' (W'.setCell ⟨g,3,none⟩ v') := (Kept.refl _ _).set (.inl (by simp)) _
 have n1 : g ∉ ownL rv := fun e => h.rr.offBlk h.bx (by decide) (ownL_mem.1 e)
 have nb : ∀ k,k < v0.heap.size + 3 → k ∉ ownL rv := fun k hk e => by have := (h.rr.lt (ownL_mem.1 e)).1; omega
 have bx1 := kW.blk h.bx n1
 have bx2 := bx1.set_ 3 v'
 have hgB := h.gB
 have hS3 := h.sz
 have t1 : ∀ {α : Type} {R : Rep α} {e : TypeId} {v : Value} {xs : List α},42 ≠ e → RowO R e S (v0.heap.size + 3) W v xs → ∀ k ∈ ownL rv,(k ∈ S ∨ W.heap.size ≤ k) ∧ v.ownBlock ≠ some k := fun he hv k hk => ⟨.inl (h.rS k (ownL_mem.1 hk)),h.rr.apart hv he k (ownL_mem.1 hk)⟩
 have t2 : ∀ k ∈ S ++ ownL v',k ∈ S ∨ W.heap.size ≤ k := fun k hk => by
  rcases List.mem_append.1 hk with h1 | h1
  ·exact .inl h1
  ·exact (hat k (ownL_mem.1 h1)).imp (h.rS k) id
 have t3 : ∀ {α : Type} {R : Rep α} {e : TypeId} {v : Value} {xs : List α},e ≠ 27 → RowO R e S (v0.heap.size + 3) W' v xs → ∀ k ∈ [g],(k ∈ S ∨ W'.heap.size ≤ k) ∧ v.ownBlock ≠ some k := fun he hv k hk => by
  simp at hk; subst hk
  exact ⟨.inl h.gS,hv.offBlk bx1 he⟩
 have go : ∀ {α : Type} {R : Rep α} {e : TypeId} {v : Value} {xs : List α},42 ≠ e → e ≠ 27 → RowO R e S (v0.heap.size + 3) W v xs → RowO R e (S ++ ownL v') (v0.heap.size + 3) (W'.setCell ⟨g,3,none⟩ v') v xs := fun he1 he2 hv =>
  ((hv.more kW (t1 he1 hv) (S' := S ++ ownL v') (fun k hk => (t2 k hk).imp id .inl))).more kS (fun k hk => ⟨.inl (List.mem_append.2 (.inl ((by simp at hk; subst hk; exact h.gS)))),(t3 he2 (hv.step kW (t1 he1 hv)) k hk).2⟩) (fun _ hk => .inl hk)
 have hsz : (W'.setCell ⟨g,3,none⟩ v').heap.size = W'.heap.size := by simp [World.setCell]
 have kk : Kept S W (W'.setCell ⟨g,3,none⟩ v') := (kW.more (T := S) (fun k hk => h.rS k (ownL_mem.1 hk))).thn (kS.more (T := S) (fun k hk => by simp at hk; subst hk; exact h.gS)) (fun k hk => .inl hk)
 exact ⟨Kept.below (Kept.below h.bel kW h.bel.size (fun k hk => by have := (h.rr.lt (ownL_mem.1 hk)).1; omega)) kS (Nat.le_trans h.bel.size hg.size) (fun k hk => by simp at hk; subst hk; omega),
  kS.blk (kW.blk h.bp (nb _ (by omega))) (by simp; omega),kS.blk (kW.blk h.bq (nb _ (by omega))) (by simp; omega),kS.blk (kW.blk h.be (nb _ (by omega))) (by simp; omega),bx2,
  go (by decide) (by decide) h.rn,h.rh.go kk t2,hr.more kS (t3 (by decide) hr) (fun k hk => by
   rcases List.mem_append.1 hk with h1 | h1
   ·exact .inl h1
   ·exact .inr (.inr (ownL_mem.1 h1))),go (by decide) (by decide) h.rm,
  List.mem_append.2 (.inl h.gS),List.mem_append.2 (.inl h.eS),fun k hk => List.mem_append.2 (.inl (h.nS k hk)),fun k hk => List.mem_append.2 (.inr (ownL_mem.2 hk)),fun k hk => List.mem_append.2 (.inl (h.mS k hk)),h.gB,fun k hk => by
   rcases List.mem_append.1 hk with h1 | h1
   ·exact h.lo k h1
   ·have := (hr.lt (ownL_mem.1 h1)).1; omega,fun k hk => by
   rw [hsz]
   rcases List.mem_append.1 hk with h1 | h1
   ·exact Nat.lt_of_lt_of_le (h.lt k h1) hg.size
   ·exact (hr.lt (ownL_mem.1 h1)).2⟩
theorem RenS.shown {sh' : List Int} (h : RenS v0 PC QC N g S nv sv rv mv ns sh rs ms W) {A : Option Addr} {l c : Nat} (hs : StabS intR S W A l c sh') : RenS v0 PC QC N g S nv (.slice A l c) rv mv ns sh' rs ms (W.setCell ⟨g,2,none⟩ (.slice A l c)) := by
 have kS : Kept [g] W (W.setCell ⟨g,2,none⟩ (.slice A l c)) := (Kept.refl _ _).set (.inl (by simp)) _
 have kk : Kept S W (W.setCell ⟨g,2,none⟩ (.slice A l c)) := kS.more fun k hk => by simp at hk; subst hk; exact h.gS
 have hgB := h.gB
 have t3 : ∀ {α : Type} {R : Rep α} {e : TypeId} {v : Value} {xs : List α},e ≠ 27 → RowO R e S (v0.heap.size + 3) W v xs → RowO R e S (v0.heap.size + 3) (W.setCell ⟨g,2,none⟩ (.slice A l c)) v xs := fun he hv => hv.step kS fun k hk => by
  simp at hk; subst hk
  exact ⟨.inl h.gS,hv.offBlk h.bx he⟩
 exact { h with bel := Kept.below h.bel kS h.bel.size (fun k hk => by simp at hk; subst hk; omega),bp := kS.blk h.bp (by simp; omega),bq := kS.blk h.bq (by simp; omega),be := kS.blk h.be (by simp; omega),bx := h.bx.set_ 2 _,rn := t3 (by decide) h.rn,rh := Stab.go (S := S) (StabS.slice hs) kk (fun _ h => .inl h),rr := t3 (by decide) h.rr,rm := t3 (by decide) h.rm,lt := fun k hk => by have := h.lt k hk; simpa [World.setCell] using this }
theorem RenS.last (h : RenS v0 PC QC N g S nv sv rv mv ns sh rs ms W) (cs : Array Value) (l1 : ns.length ≤ 1000000) (l3 : rs.length ≤ 1000000) (l4 : ms.length ≤ 1000000) :
  ∃ (nA' : Option Addr) (nc' : Nat) (sA' : Option Addr) (sc' : Nat) (rA' : Option Addr) (rc' : Nat) (mA' : Option Addr) (mc' : Nat),nv = .slice nA' ns.length nc' ∧ sv = .slice sA' sh.length sc' ∧ rv = .slice rA' rs.length rc' ∧ mv = .slice mA' ms.length mc' ∧
   SlIs strR (W.setRow (v0.heap.size + 2) cs) nA' ns.length nc' ns ∧ SlIs intR (W.setRow (v0.heap.size + 2) cs) sA' sh.length sc' sh ∧ SlIs ruleR (W.setRow (v0.heap.size + 2) cs) rA' rs.length rc' rs ∧ SlIs minR (W.setRow (v0.heap.size + 2) cs) mA' ms.length mc' ms ∧
   Below v0.heap.size v0 (W.setRow (v0.heap.size + 2) cs) := by
 have kR : Kept [v0.heap.size + 2] W (W.setRow (v0.heap.size + 2) cs) := (Kept.refl _ _).row (.inl (by simp)) _
 have kk : Kept S W (W.setRow (v0.heap.size + 2) cs) := kR.more fun k hk => by simp at hk; subst hk; exact h.eS
 have go : ∀ {α : Type} {R : Rep α} {e : TypeId} {v : Value} {xs : List α},e ≠ 27 → RowO R e S (v0.heap.size + 3) W v xs → RowO R e S (v0.heap.size + 3) (W.setRow (v0.heap.size + 2) cs) v xs := fun he hv =>
  hv.step kR (fun k hk => by simp at hk; subst hk; exact ⟨.inl h.eS,hv.offBlk h.be he⟩)
 obtain ⟨nA',nc',e1,k1⟩ := (go (by decide) h.rn).sl (by omega)
 obtain ⟨rA',rc',e3,k3⟩ := (go (by decide) h.rr).sl (by omega)
 obtain ⟨mA',mc',e4,k4⟩ := (go (by decide) h.rm).sl (by omega)
 obtain ⟨sA',sl',sc',e2,k2⟩ := (h.rh (W.setRow (v0.heap.size + 2) cs) kk)
 have hl := k2.len
 subst hl
 exact ⟨nA',nc',sA',sc',rA',rc',mA',mc',e1,by simpa using e2,e3,e4,k1,k2,k3,k4,Kept.below h.bel kR h.bel.size (by simp)⟩
end
end Go.Proofs.YthdjkenhkedjjaaGreat
namespace Go.Proofs.YthdjkenhkedjjaaGreat
open Go.RowKit
def St (T : List Nat) (W : World) (φ : World → Prop) : Prop := ∀ V,Kept T W V → φ V
theorem St.now {T : List Nat} {W : World} {φ : World → Prop} (h : St T W φ) : φ W := h W (Kept.refl _ _)
theorem St.go {T : List Nat} {W W' : World} {φ : World → Prop} (h : St T W φ) (hk : Kept T W W') : St T W' φ := fun V hV => h V (hk.trans hV)
theorem St.bel {T : List Nat} {W W' : World} {φ : World → Prop} (h : St T W φ) (hb : Below W.heap.size W W') : St T W' φ := h.go (Kept.of_below hb T)
theorem St.imp {T : List Nat} {W : World} {φ ψ : World → Prop} (h : St T W φ) (f : ∀ V,φ V → ψ V) : St T W ψ := fun V hV => f V (h V hV)
theorem St.ints {T : List Nat} {W : World} {A : Option Addr} {l c : Nat} {xs : List Int} (h : SlIs intR W A l c xs) (ho : Off T A l) : St T W (fun V => SlIs intR V A l c xs) := fun _ hV => h.keptM hV ho
theorem St.blk {T : List Nat} {W : World} {g : Nat} {t : TypeId} {cs : Array Value} (h : Blk W g t cs) (ho : g ∉ T) : St T W (fun V => Blk V g t cs) := fun _ hV => hV.blk h ho
theorem step_row {ops : Array Oper} {o : Oper} {a : Act} {K : Act → World → Prop} {Q : Exit → Act → World → Prop} {E : Prop} {w : World} (hgd : o.guard = none) (ty : TypeId) (x y : Operand) (ho : o.op = .store ty x y)
  (g : Nat) (cells : Array Value) (hx : a.eval x = .pointer (some ⟨g,0,none⟩)) (hy : a.eval y = .agg cells) (t : TypeId) (old : Array Value) (hg : Blk w g t old) (hi : (Tryz.prog.info? ty).map (·.size) = some cells.size)
  (hold : old.size = cells.size) (h1 : cells.all (·.oneCell') = true) (hK : K (a.put o.dst undef) (w.setRow g cells)) : if Region.wanted o (yielded ops a.tmps) = true then Oper.wp Tryz.prog o a w K Q else E := by
 have hw : Region.wanted o (yielded ops a.tmps) = true := by simp [Region.wanted,hgd]
 rw [if_pos hw]
 exact wp_store_row ty x y ho g cells hx hy t old hg hi hold h1 hK
end Go.Proofs.YthdjkenhkedjjaaGreat

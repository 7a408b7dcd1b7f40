/- The law of a range over a function (M: the blocks that the rounds write); appends and stores of struct elements; a fenced append whose run is known. -/
import Derived.Test.YtbfbkpoakmnlpaaRd9
import Derived.OwnWalkIn
namespace Go.Proofs.Ytbfbkpoakmnlpaa
open Go.RowKit

variable {F : Fence} {n : Nat} {P : Program}
theorem wpIn_rangeM {α : Type} {g : Operand} {ps : Array Tmp} {assign body : Code} {Q : Exit → Act → World → Prop} {a : Act} {w : World}
    (hro : F.round = none) (h1 : 1 ≤ n) {gf : Nat} {lb : Array Value} (hg : a.eval g = .func (.func gf) #[] lb) (hFg : F.fn gf) (eg : ∀ args w, (callFunc gf args).run P w = .ok (.enter gf args) w)
    {Good : List Nat → α → Array Value → World → Prop} {xs : List α} {M0 : List Nat} (hit : IterM F (n - 1) P gf lb Good xs M0 w)
    (hps : ∀ M x args W, Good M x args W → args.size = ps.size)
    (hG : ∀ M M1 x args A B, Good M x args A → (∀ k ∈ M1, k ∈ M) → Kept M A B → Good M1 x args B)
    (I : List Nat → List α → World → Prop) (Ix : Code → List α → World → Prop)
    (hIb : ∀ M pre A B, I M pre A → Below A.heap.size A B → I M pre B) (hIxb : ∀ c pre A B, Ix c pre A → Below A.heap.size A B → Ix c pre B)
    (hI : ∀ M pre A B k, w.heap.size ≤ k → I M pre A → (∀ o, A.heap[k]? = some o → o.isCells = false) → Kept [k] A B → I M pre B)
    (hIx : ∀ c pre A B k, w.heap.size ≤ k → Ix c pre A → (∀ o, A.heap[k]? = some o → o.isCells = false) → Kept [k] A B → Ix c pre B)
    (hIM : ∀ M pre W, I M pre W → ∀ k ∈ M, ∃ o, W.heap[k]? = some o ∧ o.isCells = true)
    (h0 : I M0 [] w) (Ax : α → Array Value → Act → World → Prop)
    (hAx : ∀ x args a' A B k, Ax x args a' A → (∀ o, A.heap[k]? = some o → o.isCells = false) → Kept [k] A B → Ax x args a' B)
    (hassign : ∀ (l : Nat) (M : List Nat) (pre : List α) (x : α) (args : Array Value) (W : World) (K : Act → World → Prop), I M pre W → Good M x args W → (∀ a' W', Below W.heap.size W W' → Ax x args a' W' → K a' W') →
      assign.wpIn (F.inRound l) (n - 1 - 1) P (Exit.then K (fun _ _ _ => False)) { tmps := (ps.zip args).foldl (fun t (p, v) => t.setIfInBounds p v) a.tmps, defers := [] } W)
    (hbody : ∀ (l : Nat) (M : List Nat) (pre : List α) (x : α) (args : Array Value) (a' : Act) (W : World), I M pre W → pre ++ [x] <+: xs → Good M x args W → Ax x args a' W → body.wpIn (F.inRound l) (n - 1 - 1) P (postM I Ix M (pre ++ [x]) W) a' W)
    (hdone : ∀ (D : Nat) (M : List Nat) (W : World), w.heap.size ≤ D → I M xs W → W.heap[D]? = some (.deferred (some [])) → Q .normal { a with defers := { target := .collected D, args := #[] } :: a.defers } W)
    (hstop : ∀ (D : Nat) (c : Code) (pre : List α) (W : World), w.heap.size ≤ D → pre <+: xs → Ix c pre W → W.heap[D]? = some (.deferred (some [])) → c.wpIn F n P Q { a with defers := { target := .collected D, args := #[] } :: a.defers } W) :
    (Code.rangeFunc g ps assign body).wpIn F n P Q a w := by
  refine wpIn_rangeFunc ?_
  intro fn hfn
  rw [hro]
  obtain ⟨rec, hrec⟩ : ∃ rec : LoopState → Option Code → Loop, rec = fun st pe => { state := st, pending := pe, fn, tmps := a.tmps, params := ps, assign, body, defers := w.heap.size } := ⟨_, rfl⟩
  obtain ⟨W1, hW1⟩ : ∃ W1, (w.alloc (.deferred (some []))).alloc (.loop (rec .ready none)) = W1 := ⟨_, rfl⟩
  have hL1 : W1.heap[w.heap.size + 1]? = some (.loop (rec .ready none)) := by
    rw [← hW1]; have := World.alloc_heap_new (w.alloc (.deferred (some []))) (.loop (rec .ready none)); rwa [World.size_alloc] at this
  have hK1 : W1.heap[w.heap.size]? = some (.deferred (some [])) := by
    rw [← hW1]; exact (Below.heap_alloc _ _ _ (by simp)).trans (World.alloc_heap_new w _)
  have hbw : Below w.heap.size w W1 := by rw [← hW1]; exact ((Below.refl _ w).alloc (Nat.le_refl _) _).alloc (by simp) _
  have hI1 : I M0 [] W1 := hIb _ _ _ _ h0 hbw
  refine ⟨w.heap.size + 1, [{ target := .collected w.heap.size, args := #[] }], W1, { target := .fn (.func gf) lb, args := #[.func (.yield (w.heap.size + 1)) #[] #[]] }, W1, gf,
    #[.func (.yield (w.heap.size + 1)) #[] #[]] ++ lb, W1, ?_, ?_, ?_, ?_, fun _ => h1, ?_⟩
  · rw [← hW1, hrec]; exact run_enterLoop_outer _ _ _ _ _
  · simp only [resolve, hg]
    simp [go_sem]
  · intro f' hf'; simp [Target.leads] at hf'; subst hf'; exact hFg
  · simp [invoke, go_sem, eg]
  · refine (hit (w.heap.size + 1)
      (fun M pre W => ∃ M1, M = (w.heap.size + 1) :: M1 ∧ I M1 pre W ∧ W.heap[w.heap.size + 1]? = some (.loop (rec .ready none)) ∧ W.heap[w.heap.size]? = some (.deferred (some [])))
      (fun pre W => ∃ c, Ix c pre W ∧ W.heap[w.heap.size + 1]? = some (.loop (rec .done (some c))) ∧ W.heap[w.heap.size]? = some (.deferred (some [])))
      ((w.heap.size + 1) :: M0) W1
      (fun M pre A B hs hb => by
        obtain ⟨M1, rfl, hi, hl, hk⟩ := hs
        exact ⟨M1, rfl, hIb _ _ _ _ hi hb, (hb.block _ (Array.getElem?_eq_some_iff.1 hl).1).trans hl, (hb.block _ (Array.getElem?_eq_some_iff.1 hk).1).trans hk⟩)
      (fun pre A B hs hb => by
        obtain ⟨c, hc, hl, hk⟩ := hs
        exact ⟨c, hIxb _ _ _ _ hc hb, (hb.block _ (Array.getElem?_eq_some_iff.1 hl).1).trans hl, (hb.block _ (Array.getElem?_eq_some_iff.1 hk).1).trans hk⟩)
      (fun M pre A hs k hk => by
        obtain ⟨M1, rfl, hi, hl, hkk⟩ := hs
        rcases List.mem_cons.1 hk with rfl | hk
        · exact (Array.getElem?_eq_some_iff.1 hl).1
        · obtain ⟨o, ho, _⟩ := hIM _ _ _ hi k hk
          exact (Array.getElem?_eq_some_iff.1 ho).1)
      ?_ ⟨M0, rfl, hI1, hL1, hK1⟩ hbw (fun k hk => by
        rcases List.mem_cons.1 hk with rfl | hk
        · exact .inr (by omega)
        · exact .inl hk)).mono ?_
    · rintro M pre x args W ⟨M1, rfl, hi, hl, hk⟩ hpf hgd
      have hy := run_yield (P := P) (args := args) hl (by rw [hrec]; exact hps _ _ _ _ hgd)
      rw [hrec] at hy
      have hgd1 := hG _ M1 _ _ _ _ hgd (fun k hk => List.mem_cons_of_mem _ hk) (Kept.refl _ _)
      refine ⟨fn, _, assign, body, hy, roundIn_of_wpIn hfn (hassign _ M1 pre x args W _ hi hgd1 ?_)⟩
      clear hy
      intro a' Wa hba hax
      have hla := (hba.block _ (Array.getElem?_eq_some_iff.1 hl).1).trans hl
      have hka := (hba.block _ (Array.getElem?_eq_some_iff.1 hk).1).trans hk
      have hia := hIb _ _ _ _ hi hba
      have hlt : w.heap.size + 1 < Wa.heap.size := (Array.getElem?_eq_some_iff.1 hla).1
      refine ⟨_, run_beginRound hla (by rw [hrec]), ?_⟩
      obtain ⟨Wb, hWb⟩ : ∃ Wb, Wa.putObj (w.heap.size + 1) (.loop { rec .ready none with state := .busy }) = Wb := ⟨_, rfl⟩
      have hkb : Kept [w.heap.size + 1] Wa Wb := by rw [← hWb]; exact kept_putObj _ _ _
      have hlb : Wb.heap[w.heap.size + 1]? = some (.loop { rec .ready none with state := .busy }) := by rw [← hWb]; exact World.putObj_heap_same hlt
      have hdb : Wb.heap[w.heap.size]? = some (.deferred (some [])) := by rw [← hWb]; exact (World.putObj_heap_other (by omega)).trans hka
      have hnc : ∀ o, Wa.heap[w.heap.size + 1]? = some o → o.isCells = false := fun o ho => by rw [hla] at ho; cases ho; rfl
      have hib := hI _ _ _ _ _ (by omega) hia hnc hkb
      have hgb := hG _ M1 _ _ _ _ hgd (fun k hk => List.mem_cons_of_mem _ hk) ((Kept.of_below hba _).trans (hkb.more (T := (w.heap.size + 1) :: M1) (fun k hk => by simp at hk; simp [hk])))
      rw [hWb]
      refine wpIn_mono (hbody _ M1 pre x args a' Wb hib hpf hgb (hAx _ _ _ _ _ _ hax hnc hkb)) ?_
      have hlM : w.heap.size + 1 ∉ M1 := fun hm => by
        obtain ⟨o, ho, hc⟩ := hIM _ _ _ hi _ hm
        rw [hl] at ho; cases ho; cases hc
      have hdM : w.heap.size ∉ M1 := fun hm => by
        obtain ⟨o, ho, hc⟩ := hIM _ _ _ hi _ hm
        rw [hk] at ho; cases ho; cases hc
      have fin : ∀ (jump : Option Code) (W3 : World), Kept M1 Wb W3 →
          (Instr.endRound (w.heap.size + 1) jump).run P W3 = .ok (.bool jump.isNone) (W3.putObj (w.heap.size + 1) (.loop (rec (if jump.isNone then .ready else .done) jump))) ∧
          W3.heap[w.heap.size + 1]? = some (.loop { rec .ready none with state := .busy }) ∧
          (W3.putObj (w.heap.size + 1) (.loop (rec (if jump.isNone then .ready else .done) jump))).heap[w.heap.size + 1]? = some (.loop (rec (if jump.isNone then .ready else .done) jump)) ∧
          (W3.putObj (w.heap.size + 1) (.loop (rec (if jump.isNone then .ready else .done) jump))).heap[w.heap.size]? = some (.deferred (some [])) := fun jump W3 hk3 => by
        have hl3 := (hk3.block _ (Array.getElem?_eq_some_iff.1 hlb).1 hlM).trans hlb
        have hd3 := (hk3.block _ (Array.getElem?_eq_some_iff.1 hdb).1 hdM).trans hdb
        have := run_endRound (P := P) jump hl3
        rw [hrec] at this ⊢
        exact ⟨this, by rw [hrec] at hl3; exact hl3, World.putObj_heap_same (Array.getElem?_eq_some_iff.1 hl3).1, (World.putObj_heap_other (by omega)).trans hd3⟩
      have lv : ∀ (c : Code) (W3 : World), Ix c (pre ++ [x]) W3 → Kept M1 Wb W3 → ∃ v w', (Instr.endRound (w.heap.size + 1) (some c)).run P W3 = .ok v w' ∧
          ((Ending.returned v = .returned (.bool true) ∧ ∃ M', (∃ M1', M' = (w.heap.size + 1) :: M1' ∧ I M1' (pre ++ [x]) w' ∧ w'.heap[w.heap.size + 1]? = some (.loop (rec .ready none)) ∧ w'.heap[w.heap.size]? = some (.deferred (some []))) ∧ Kept ((w.heap.size + 1) :: M1) W w' ∧ (∀ k ∈ M', k ∈ (w.heap.size + 1) :: M1 ∨ W.heap.size ≤ k)) ∨
            (Ending.returned v = .returned (.bool false) ∧ ∃ c, Ix c (pre ++ [x]) w' ∧ w'.heap[w.heap.size + 1]? = some (.loop (rec .done (some c))) ∧ w'.heap[w.heap.size]? = some (.deferred (some [])))) := fun c W3 hx hk3 => by
        obtain ⟨hr, hl3, hl4, hk4⟩ := fin (some c) W3 hk3
        exact ⟨_, _, hr, .inr ⟨rfl, c, hIx _ _ _ _ _ (by omega) hx (fun o ho => by rw [hl3] at ho; cases ho; rfl) (kept_putObj _ _ _), hl4, hk4⟩⟩
      rintro e a3 W3 hp
      cases e with
      | normal =>
        obtain ⟨M', hi3, hk3, hm3⟩ := hp
        obtain ⟨hr, hl3, hl4, hk4⟩ := fin none W3 hk3
        have hkf : Kept ((w.heap.size + 1) :: M1) W (W3.putObj (w.heap.size + 1) (.loop (rec .ready none))) :=
          (((Kept.of_below hba _).trans (hkb.more (fun k hk => by simp at hk; simp [hk]))).trans (hk3.more (fun k hk => List.mem_cons_of_mem _ hk))).trans ((kept_putObj _ _ _).more (fun k hk => by simp at hk; simp [hk]))
        refine ⟨_, _, hr, .inl ⟨rfl, (w.heap.size + 1) :: M', ⟨M', rfl, hI _ _ _ _ _ (by omega) hi3 (fun o ho => by rw [hl3] at ho; cases ho; rfl) (kept_putObj _ _ _), hl4, hk4⟩, hkf, fun k hk => ?_⟩⟩
        rcases List.mem_cons.1 hk with rfl | hk
        · exact .inl (by simp)
        · rcases hm3 k hk with h | h
          · exact .inl (List.mem_cons_of_mem _ h)
          · exact .inr (Nat.le_trans (Nat.le_trans hba.size hkb.size) h)
      | ret => exact lv _ _ hp.1 hp.2
      | exit id => exact lv _ _ hp.1 hp.2
      | goto t => exact lv _ _ hp.1 hp.2
      | panic ch => exact hp.elim
      | outgrown => exact hp.elim
    · rintro e W2 ⟨⟨v, rfl⟩, (⟨M', M1, _, hi, hl, hk⟩ | ⟨pre, hpre, c, hi, hl, hk⟩)⟩
      · exact ⟨none, _, by have := run_endLoop (P := P) hl (by rw [hrec]; simp); rw [hrec] at this; exact this, hdone _ M1 _ (Nat.le_refl _) (hI _ _ _ _ _ (by omega) hi (fun o ho => by rw [hl] at ho; cases ho; rfl) (kept_putObj _ _ _)) ((World.putObj_heap_other (by omega)).trans hk)⟩
      · exact ⟨some c, _, by have := run_endLoop (P := P) hl (by rw [hrec]; simp); rw [hrec] at this; exact this, hstop _ c pre _ (Nat.le_refl _) hpre (hIx _ _ _ _ _ (by omega) hi (fun o ho => by rw [hl] at ho; cases ho; rfl) (kept_putObj _ _ _)) ((World.putObj_heap_other (by omega)).trans hk)⟩

theorem wpListIn_append_run {ops : Array Oper} {rest : List Oper} {o : Oper} {a : Act} {w : World} {Q : Exit → Act → World → Prop} (hg : o.guard = none) (s x : Operand) (t : TypeId)
    (ho : o.op = .call { callee := .builtin .append, args := #[s, x], argTypes := #[t, t] }) (v u : Value) (hs : a.eval s = v) (hx : a.eval x = u)
    (v' : Value) (w' : World) (hrun : (Builtin.append_ #[t, t] o.type #[v, u]).run P w = .ok v' w') (h : wpListIn F n P ops Q rest (a.put o.dst v') w') : wpListIn F n P ops Q (o :: rest) a w :=
  wpListIn_plain hg fun _ hK => by
    unfold Oper.wpIn
    refine ⟨?_, ?_⟩
    · simp [Oper.about, ho, resolve, Target.leads, Sem.run_pure]
    · rw [Oper.semAt_plain F _ _ (by rw [ho]; intro c hc'; cases hc')]
      simp [execOp, ho, resolve, invoke, builtin, hs, hx, hrun, Result.andThen]
      exact hK _ _ h
/-- A cell lies in a block of cells. -/
theorem cells_of_cell {w : World} {b o : Nat} {v : Value} (h : w.cell? ⟨b, o, none⟩ = some v) : ∃ ob, w.heap[b]? = some ob ∧ ob.isCells = true := by
  unfold World.cell? at h
  cases hb : w.heap[b]? with
  | none => rw [hb] at h; simp at h
  | some ob =>
    rw [hb] at h
    cases ob <;> first | exact ⟨_, rfl, rfl⟩ | (simp at h)
theorem SlIs.offN {w : World} {A : Option Addr} {l c : Nat} {xs : List Int} (h : SlIs intR w A l c xs) {k : Nat} (hn : ∀ o, w.heap[k]? = some o → o.isCells = false) : Off [k] A l := fun h0 ad e hm => by
  have hl := h.1
  have hx : xs[0]? = some xs[0] := List.getElem?_eq_getElem (by omega)
  obtain ⟨b, off, e2, _, hc, _⟩ := h.int hx
  rw [e] at e2; cases e2
  obtain ⟨ob, h1, h2⟩ := cells_of_cell hc
  simp at hm; subst hm
  rw [hn _ h1] at h2; cases h2
theorem RuleIn.keptM {M : List Nat} {w B : World} {r : GRule} {hA bA wA : Option Addr} {hl hc bl bc wl wc : Nat} (h : RuleIn w r hA hl hc bA bl bc wA wl wc) (hk : Kept M w B) (h1 : Off M hA hl) (h2 : Off M bA bl) (h3 : Off M wA wl) : RuleIn B r hA hl hc bA bl bc wA wl wc :=
  ⟨h.head.keptM hk h1, h.bound, h.body.keptM hk h2, h.wt.keptM hk h3⟩
theorem ownsRow_keptS {w w' : World} {base size : Nat} {e : TypeId} {v : Value} {l : Nat} {cs : List Value} {S : List Nat} (h : w.ownsRow base e size v l cs) (hk : Kept S w w') (hne : ∀ k, v.ownBlock = some k → k ∉ S) : w'.ownsRow base e size v l cs := by
  refine ⟨h.1, ?_⟩
  rcases h.2 with h2 | ⟨g, cap, cur, rfl, b, c, d⟩
  · exact .inl h2
  · exact .inr ⟨g, cap, cur, rfl, b, (hk.block g (h.lt g rfl).2 (hne g rfl)).trans c, d⟩
theorem info_ruleF : (Try.prog.info? 54).map (fun i => (i.zero, i.size, i.bytes)) = some (some (.agg #[.bool false, .slice none 0 0, .bool false, .int .i64 0, .slice none 0 0, .slice none 0 0]), 6, 96) := by kernel_rfl
/-- append(v, r) at rules, the new element being boxed first. -/
theorem appR {w : World} {base : Nat} {v : Value} {l : Nat} {cs : List Value} (h : w.ownsRow base 54 6 v l cs) (c0 c1 c2 c3 c4 c5 : Value) (h1 : ∀ u ∈ [c0, c1, c2, c3, c4, c5], u.oneCell' = true) (hs : l < 1099511627776) (hb : base ≤ w.heap.size) (ty : TypeId) :
    ∃ v' w', (Builtin.append_ #[24, 24] ty #[v, .slice (some ⟨w.heap.size, 0, none⟩) 1 1]).run Try.prog (w.alloc (.cells #[c0, c1, c2, c3, c4, c5] 54)) = .ok v' w' ∧ w'.ownsRow base 54 6 v' (l + 1) (cs ++ [c0, c1, c2, c3, c4, c5]) ∧ w.grownBy w' v.ownBlock ∧
      (∀ k, v'.ownBlock = some k → v.ownBlock = some k ∨ w.heap.size ≤ k) := by
  obtain ⟨i0, hi0, hz0, hz1, hz2⟩ := info_parts info_ruleF
  obtain ⟨v', w', hrun, h2, h3, _, h5⟩ := run_append_own_at (P := Try.prog) (w.alloc (.cells #[c0, c1, c2, c3, c4, c5] 54)) base 24 ty 54 i0 _ 6 96 Try.underlying24 hi0 hz0 hz1 hz2 rfl (by omega) v l _ (h.alloc _) ⟨w.heap.size, 0, none⟩ 1 1 [c0, c1, c2, c3, c4, c5] rfl
    (by intro j u hj; match j, hj with
        | 0, hj => simp at hj; subst hj; simp [Addr.add]
        | 1, hj => simp at hj; subst hj; simp [Addr.add]
        | 2, hj => simp at hj; subst hj; simp [Addr.add]
        | 3, hj => simp at hj; subst hj; simp [Addr.add]
        | 4, hj => simp at hj; subst hj; simp [Addr.add]
        | 5, hj => simp at hj; subst hj; simp [Addr.add]
        | j + 6, hj => simp at hj) h1 (by unfold maxLen; omega) (by omega) (by simp; omega)
  refine ⟨v', w', hrun, h2, ⟨h3.os, h3.tape, h3.output, Nat.le_trans (by simp) h3.size, fun k hk hne => ?_⟩, fun k hk => ?_⟩
  · rw [h3.block k (by simp; omega) hne]; exact Below.heap_alloc w _ k hk
  · rcases h5 with h5 | h5 <;> rw [h5] at hk
    · exact .inl hk
    · simp at hk; exact .inr (by omega)
end Go.Proofs.Ytbfbkpoakmnlpaa

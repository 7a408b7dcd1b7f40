/- Memory that a call itself makes: rows that are appended to, blocks known whole. -/
import Derived.Test.YtcbkkjcleiibfaaBase
import Derived.Test.YtcbkkjcleiibfaaRows
import Derived.Maps.AppendAt
import Derived.Deep.AppendLies
import Derived.Deep.Draws
import Derived.Deep.OwnRows
namespace Go.Proofs.Ytcbkkjcleiibfaa
open Go.RowKit

/-! ### frames -/
theorem grown_below {a w w' : World} {row : Option Nat} (h : a.grownBy w row) (hb : Below w.heap.size w w') : a.grownBy w' row :=
  ⟨hb.os.trans h.os, hb.tape.trans h.tape, hb.output.trans h.output, Nat.le_trans h.size hb.size, fun i hi hne => (hb.block i (Nat.lt_of_lt_of_le hi h.size)).trans (h.block i hi hne)⟩
theorem grown_of_bel {a w : World} (h : Below a.heap.size a w) (row : Option Nat) : a.grownBy w row := ⟨h.os, h.tape, h.output, h.size, fun i hi _ => h.block i hi⟩
theorem grown_set {a w : World} {g : Nat} (h : a.grownBy w (some g)) {p : Addr} (hp : p.block = g ∨ a.heap.size ≤ p.block) (u : Value) : a.grownBy (w.setCell p u) (some g) :=
  ⟨h.os, h.tape, h.output, by simpa [World.setCell] using h.size, fun i hi hne => (Below.heap_setCell w p u i (by
    rintro rfl
    rcases hp with hp | hp
    · exact hne (by rw [hp])
    · omega)).trans (h.block i hi hne)⟩
/-- Behind a write to row, which is row0 or new. -/
theorem grown_grown {a w w' : World} {row0 row : Option Nat} (h : a.grownBy w row0) (hg : w.grownBy w' row) (hr : ∀ k, row = some k → row0 = some k ∨ a.heap.size ≤ k) : a.grownBy w' row0 :=
  ⟨hg.os.trans h.os, hg.tape.trans h.tape, hg.output.trans h.output, Nat.le_trans h.size hg.size, fun i hi hne => (hg.block i (Nat.lt_of_lt_of_le hi h.size) (fun e => by
    rcases hr i e.symm with h1 | h1
    · exact hne h1.symm
    · omega)).trans (h.block i hi hne)⟩
theorem bel_grown {B : Nat} {a w w' : World} {row : Option Nat} (h : Below B a w) (hg : w.grownBy w' row) (hB : B ≤ w.heap.size) (hr : ∀ k, row = some k → B ≤ k) : Below B a w' := h.grown hg hB hr
theorem grown_refl (w : World) (row : Option Nat) : w.grownBy w row := ⟨rfl, rfl, rfl, Nat.le_refl _, fun _ _ _ => rfl⟩
theorem grown_drew {a w : World} {row : Option Nat} (h : a.grownBy w row) : a.grownBy w.drew row := ⟨h.os, h.tape, h.output, h.size, h.block⟩
theorem grown_alloc {a w : World} {row : Option Nat} (h : a.grownBy w row) (o : Obj) : a.grownBy (w.alloc o) row := grown_below h (bel_alloc w o)

/-! ### a block known whole -/
def Blk (w : World) (g : Nat) (t : TypeId) (cs : Array Value) : Prop := w.heap[g]? = some (.cells cs t (0, 0))
section
variable {w w' : World} {g : Nat} {t : TypeId} {cs : Array Value}
theorem Blk.lt (h : Blk w g t cs) : g < w.heap.size := by
  rcases Nat.lt_or_ge g w.heap.size with hlt | hge
  · exact hlt
  · unfold Blk at h; rw [Array.getElem?_eq_none hge] at h; cases h
theorem Blk.cell (h : Blk w g t cs) (i : Nat) : w.cell? ⟨g, i, none⟩ = cs[i]? := cell_of_row w g i cs t (0, 0) h
theorem Blk.frozen (h : Blk w g t cs) (i : Nat) : w.frozen? ⟨g, i, none⟩ = false := by
  unfold Blk at h
  simp [World.frozen?, h]
theorem Blk.new (w : World) (t : TypeId) (cs : Array Value) : Blk (w.alloc (.cells cs t)) w.heap.size t cs := heap_alloc_new w _
theorem Blk.set_ (h : Blk w g t cs) (i : Nat) (u : Value) : Blk (w.setCell ⟨g, i, none⟩ u) g t (cs.setIfInBounds i u) := by
  unfold Blk at h ⊢
  simp [World.setCell, Array.getElem?_modify, h]
theorem Blk.far (h : Blk w g t cs) {p : Addr} (hp : g ≠ p.block) (u : Value) : Blk (w.setCell p u) g t cs := (Below.heap_setCell w p u g hp).trans h
theorem Blk.bel (h : Blk w g t cs) (hb : Below w.heap.size w w') : Blk w' g t cs := (hb.block g h.lt).trans h
theorem Blk.grown {row : Option Nat} (h : Blk w g t cs) (hb : w.grownBy w' row) (hg : some g ≠ row) : Blk w' g t cs := (hb.block g h.lt hg).trans h
theorem Blk.alloc (h : Blk w g t cs) (o : Obj) : Blk (w.alloc o) g t cs := h.bel (bel_alloc w o)
theorem Blk.drew (h : Blk w g t cs) : Blk w.drew g t cs := h
end
/-- The ints f 0 .. f (n-1) in a block. -/
def fnCells (n : Nat) (f : Nat → Int) : Array Value := Array.ofFn (fun i : Fin n => Value.int .i64 (f i))
theorem fnCells_get (n : Nat) (f : Nat → Int) (i : Nat) (h : i < n) : (fnCells n f)[i]? = some (.int .i64 (f i)) := by
  unfold fnCells; simp [h]
theorem fnCells_set (n : Nat) (f : Nat → Int) (i : Nat) (v : Int) : (fnCells n f).setIfInBounds i (.int .i64 v) = fnCells n (fun j => if j = i then v else f j) := by
  unfold fnCells
  apply Array.ext
  · simp
  · intro j h1 h2
    rw [Array.getElem_setIfInBounds (by simpa using h1)]
    simp only [Array.getElem_ofFn]
    by_cases h : i = j
    · subst h; simp
    · rw [if_neg h, if_neg (fun e => h e.symm)]
theorem sl_of_blk {w : World} {g : Nat} {t : TypeId} {n : Nat} {f : Nat → Int} (h : Blk w g t (fnCells n f)) (hn : n ≤ 17592186044416) (hf : ∀ i, i < n → I64 (f i)) :
    SlIs intR w (some ⟨g, 0, none⟩) n n ((List.range n).map f) := by
  refine ⟨by simp, Nat.le_refl _, ⟨show n ≤ 9223372036854775807 by omega, hn⟩, fun _ => ⟨_, rfl, h.lt, fun i x hx => ?_⟩⟩
  have hi : i < n := by
    have := (List.getElem?_eq_some_iff.1 hx).1; simpa using this
  have hxe : x = f i := by simp [hi] at hx; exact hx.symm
  subst hxe
  refine ⟨[.int .i64 (f i)], ⟨rfl, hf i hi⟩, fun j u hu => ?_⟩
  match j, hu with
  | 0, hu =>
    simp at hu; subst hu
    rw [add_none]
    simp only [intR, Nat.zero_add, Nat.mul_one, Nat.add_zero]
    rw [h.cell, fnCells_get n f i hi]
  | j + 1, hu => simp at hu

/-! ### rows that are appended to -/
/-- A row of the call's own as a slice that reads as xs. -/
theorem SlIs.of_own {α : Type} {R : Rep α} {w : World} {base : Nat} {e : TypeId} {v : Value} {l : Nat} {cs : List Value} {xs : List α} (h : w.ownsRow base e R.size v l cs) (hl : l = xs.length) (hs : l ≤ 17592186044416)
    (hr : ∀ i x, xs[i]? = some x → R.is w ((cs.drop (i * R.size)).take R.size) x) : ∃ A c, v = .slice A l c ∧ SlIs R w A l c xs := by
  have hlen := h.1
  rcases h.2 with ⟨rfl, h0⟩ | ⟨g, cap, cur, rfl, hb, hh, hlc, hcm, hcs, htk⟩
  · subst h0
    have hxs : xs = [] := List.eq_nil_of_length_eq_zero hl.symm
    subst hxs
    exact ⟨none, 0, rfl, SlIs.nil R w⟩
  · refine ⟨some ⟨g, 0, none⟩, cap, rfl, hl, hlc, ⟨hcm, hs⟩, fun hpos => ⟨_, rfl, ?_, fun i x hx => ⟨_, hr i x hx, fun j u hu => ?_⟩⟩⟩
    · exact (h.lt g rfl).2
    · refine h.cells (g := g) rfl _ u ?_
      rw [List.getElem?_take] at hu
      split at hu
      · rw [List.getElem?_drop] at hu; exact hu
      · cases hu
/-- A row of ints of the call's own. -/
def OwnI (w : World) (base : Nat) (v : Value) (l : Nat) (xs : List Int) : Prop := l = xs.length ∧ w.ownsRow base 3 1 v l (xs.map (Value.int .i64))
theorem OwnI.nil (w : World) (base : Nat) : OwnI w base (.slice none 0 0) 0 [] := ⟨rfl, World.ownsRow_nil w base _ _⟩
theorem OwnI.len {w : World} {base : Nat} {v : Value} {l : Nat} {xs : List Int} (h : OwnI w base v l xs) : l = xs.length := h.1
theorem OwnI.kept {w w' : World} {base : Nat} {v : Value} {l : Nat} {xs : List Int} {row : Option Nat} (h : OwnI w base v l xs) (hg : w.grownBy w' row) (hne : v.ownBlock = none ∨ v.ownBlock ≠ row) : OwnI w' base v l xs := ⟨h.1, h.2.kept hg hne⟩
theorem OwnI.bel {w w' : World} {base : Nat} {v : Value} {l : Nat} {xs : List Int} (h : OwnI w base v l xs) (hb : Below w.heap.size w w') : OwnI w' base v l xs :=
  h.kept (grown_of_bel hb none) (by cases hv : v.ownBlock with | none => exact .inl rfl | some k => exact .inr (by simp))
/-- A store or a growth in block g below the base. -/
theorem OwnI.past {w w' : World} {base : Nat} {v : Value} {l : Nat} {xs : List Int} {g : Nat} (h : OwnI w base v l xs) (hg : w.grownBy w' (some g)) (hlt : g < base) : OwnI w' base v l xs :=
  h.kept hg (by
    cases hv : v.ownBlock with
    | none => exact .inl rfl
    | some k => exact .inr (fun e => by cases e; have := (h.2.lt g hv).1; omega))
theorem OwnI.mono {w : World} {base base' : Nat} {v : Value} {l : Nat} {xs : List Int} (h : OwnI w base v l xs) (hb : base' ≤ base) : OwnI w base' v l xs := by
  refine ⟨h.1, h.2.1, ?_⟩
  rcases h.2.2 with h2 | ⟨g, cap, cur, a, b, c, d⟩
  · exact .inl h2
  · exact .inr ⟨g, cap, cur, a, by omega, c, d⟩
theorem OwnI.sl {w : World} {base : Nat} {v : Value} {l : Nat} {xs : List Int} (h : OwnI w base v l xs) (hs : l ≤ 17592186044416) (hx : ∀ x ∈ xs, I64 x) : ∃ A c, v = .slice A l c ∧ SlIs intR w A l c xs := by
  refine SlIs.of_own (R := intR) h.2 h.1 hs (fun i x hxi => ?_)
  show _ = [Value.int .i64 x] ∧ _
  refine ⟨?_, hx x (List.mem_of_getElem? hxi)⟩
  have hi : i < xs.length := (List.getElem?_eq_some_iff.1 hxi).1
  have hxe : xs[i] = x := (List.getElem?_eq_some_iff.1 hxi).2
  simp only [intR, Nat.mul_one]
  rw [← List.map_drop, ← List.map_take, List.drop_eq_getElem_cons hi, hxe]
  rfl
theorem info_int : (Try.prog.info? 3).map (fun i => (i.zero, i.size, i.bytes)) = some (some (.int .i64 0), 1, 8) := by kernel_rfl
/-- append(v, y) at ints, the new element being boxed first. -/
theorem app1 {w : World} {base : Nat} {v : Value} {l : Nat} {xs : List Int} (h : OwnI w base v l xs) (y : Int) (hs : l < 17592186044416) (hb : base ≤ w.heap.size) (ty : TypeId) :
    ∃ v' w', (Builtin.append_ #[24, 24] ty #[v, .slice (some ⟨w.heap.size, 0, none⟩) 1 1]).run Try.prog (w.alloc (.cells #[.int .i64 y] 3)) = .ok v' w' ∧ OwnI w' base v' (l + 1) (xs ++ [y]) ∧ w.grownBy w' v.ownBlock ∧
      (∀ k, v'.ownBlock = some k → v.ownBlock = some k ∨ w.heap.size ≤ k) := by
  obtain ⟨i0, hi0, hz0, hz1, hz2⟩ := info_parts info_int
  obtain ⟨v', w', hrun, h2, h3, _, h5⟩ := run_append_own_at (P := Try.prog) (w.alloc (.cells #[.int .i64 y] 3)) base 24 ty 3 i0 _ 1 8 Try.underlying24 hi0 hz0 hz1 hz2 rfl (by omega) v l _ (h.2.alloc _) ⟨w.heap.size, 0, none⟩ 1 1 [.int .i64 y] rfl
    (by intro j u hj; match j, hj with
        | 0, hj => simp at hj; subst hj; simp [Addr.add]
        | j + 1, hj => simp at hj) (by simp [Value.oneCell']) (by unfold maxLen; omega) (by omega) (by simp; omega)
  refine ⟨v', w', hrun, ⟨by rw [h.1]; simp, by simpa using h2⟩, ⟨h3.os, h3.tape, h3.output, Nat.le_trans (by simp) h3.size, fun k hk hne => ?_⟩, fun k hk => ?_⟩
  · rw [h3.block k (by simp; omega) hne]; exact Below.heap_alloc w _ k hk
  · rcases h5 with h5 | h5 <;> rw [h5] at hk
    · exact .inl hk
    · simp at hk; exact .inr (by omega)
/-- append(v, xs...) at ints from a slice that reads as ys. -/
theorem appS {w : World} {base : Nat} {v : Value} {l : Nat} {xs : List Int} (h : OwnI w base v l xs) {A : Option Addr} {m c : Nat} {ys : List Int} (hy : SlIs intR w A m c ys) (hs : l + m ≤ 17592186044416) (hb : base ≤ w.heap.size) (ty : TypeId) :
    ∃ v' w', (Builtin.append_ #[24, 24] ty #[v, .slice A m c]).run Try.prog w = .ok v' w' ∧ OwnI w' base v' (l + m) (xs ++ ys) ∧ w.grownBy w' v.ownBlock ∧
      (∀ k, v'.ownBlock = some k → v.ownBlock = some k ∨ w.heap.size ≤ k) := by
  obtain ⟨i0, hi0, hz0, hz1, hz2⟩ := info_parts info_int
  rcases A with _ | ad
  · have h0 : m = 0 := by
      rcases Nat.eq_zero_or_pos m with h0 | h0
      · exact h0
      · obtain ⟨ad, he, _⟩ := hy.2.2.2 h0; cases he
    subst h0
    have hys : ys = [] := List.eq_nil_of_length_eq_zero hy.len.symm
    subst hys
    refine ⟨v, w, ?_, by simpa using h, grown_refl _ _, fun k hk => .inl hk⟩
    rcases h.2.2 with ⟨rfl, _⟩ | ⟨g, cap, cur, rfl, _, _, hnc, _⟩
    · simp [Builtin.append_, run_underlying (P := Try.prog) Try.underlying24, sizeOf, typeInfo, hi0, Builtin.lenOf, Builtin.firstCells]
    · simp [Builtin.append_, run_underlying (P := Try.prog) Try.underlying24, sizeOf, typeInfo, hi0, Builtin.lenOf, Builtin.firstCells, hnc, storeCells]
  · have hc : ∀ i x, ys[i]? = some x → w.cell? (ad.add i) = some (.int .i64 x) := by
      intro i x hx
      have h0 : 0 < m := by rw [hy.len]; have := (List.getElem?_eq_some_iff.1 hx).1; omega
      obtain ⟨ad', he, hlt, hc⟩ := hy.2.2.2 h0
      cases he
      obtain ⟨cs, ⟨rfl, _⟩, hcell⟩ := hc i x hx
      have := hcell 0 _ rfl
      simpa [intR] using this
    obtain ⟨v', w', hrun, h2, h3, _, h5⟩ := run_append_own_at (P := Try.prog) w base 24 ty 3 i0 _ 1 8 Try.underlying24 hi0 hz0 hz1 hz2 rfl (by omega) v l _ h.2 ad m c (ys.map (Value.int .i64)) (by simp [hy.len])
      (by intro j u hj
          simp only [List.getElem?_map, Option.map_eq_some_iff] at hj
          obtain ⟨x, hx, rfl⟩ := hj
          exact hc j x hx) (by intro u hu; simp at hu; obtain ⟨x, _, rfl⟩ := hu; rfl) (by unfold maxLen; omega) (by omega) hb
    refine ⟨v', w', hrun, ⟨by rw [h.1, hy.len]; simp, by simpa using h2⟩, h3, fun k hk => ?_⟩
    rcases h5 with h5 | h5 <;> rw [h5] at hk
    · exact .inl hk
    · simp at hk; exact .inr (by omega)
/-- make([]int, n). -/
theorem make_int (n : Nat) (hn : n ≤ 17592186044416) (W : World) :
    (Instr.makeSlice 24 (.int .i64 (n : Int)) (.int .i64 (n : Int))).run Try.prog W = .ok (.slice (some ⟨W.heap.size, 0, none⟩) n n) (W.alloc (.cells (fnCells n (fun _ => 0)) 3)) := by
  have h := run_make_row' (P := Try.prog) 24 3 (.int .i64 0) 8 Try.underlying24 info_int rfl .i64 .i64 n (by omega) (by omega) W
  have e : madeCells #[Value.int .i64 0] n = fnCells n (fun _ => 0) := by
    unfold madeCells fnCells
    apply Array.ext
    · simp
    · intro i h1 h2
      simp [Nat.mod_one]
  rw [h, e]
/-- append, whose run is known. -/
theorem wpList_append_run {P : Program} {ops : Array Oper} {rest : List Oper} {o : Oper} {a : Act} {w : World} {Q : Exit → Act → World → Prop} (hg : o.guard = none) (s x : Operand) (t : TypeId)
    (ho : o.op = .call { callee := .builtin .append, args := #[s, x], argTypes := #[t, t] }) (v u : Value) (hs : a.eval s = v) (hx : a.eval x = u)
    (v' : Value) (w' : World) (hrun : (Builtin.append_ #[t, t] o.type #[v, u]).run P w = .ok v' w') (h : wpList P ops Q rest (a.put o.dst v') w') : wpList P ops Q (o :: rest) a w :=
  wpList_plain hg fun _ hK => by
    unfold Oper.wp execOp
    simp only [ho, resolve, invoke, builtin, Sem.run_bind, Sem.run_pure, Result.andThen_ok, List.map_toArray, List.map_cons, List.map_nil, hs, hx, hrun]
    exact hK _ _ h
end Go.Proofs.Ytcbkkjcleiibfaa

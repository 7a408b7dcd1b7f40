/- A level under way: its box, its two rows of ints. -/
import Derived.Test.YtdkjanbfheehoaaGreatGM
import Derived.Test.YtdkjanbfheehoaaGreatRr0
namespace Go.Proofs.YtdkjanbfheehoaaGreat
open Go.RowKit

theorem RowO.anyS {e : TypeId} {S T : List Nat} {B : Nat} {W : World} {v : Value} {xs : List Int} (h : RowO intR e S B W v xs) : RowO intR e T B W v xs := by
  obtain ⟨⟨h1, h4, h5⟩, cs, h2, h3⟩ := h
  exact ⟨⟨Kept.refl _ _, h4, fun k hk => .inl (List.mem_append.2 (.inr (ownL_mem.2 hk)))⟩, cs, h2, fun i x hx V _ => h3 i x hx W h1⟩
/-- A row of ints, when other blocks are written. -/
theorem RowO.intStep {e : TypeId} {S T : List Nat} {B : Nat} {W W' : World} {v : Value} {xs : List Int} (h : RowO intR e S B W v xs) (hk : Kept T W W') (hT : ∀ k ∈ T, v.ownBlock ≠ some k) : RowO intR e S B W' v xs :=
  ((h.anyS (T := T)).step hk fun k hm => ⟨.inl hm, hT k hm⟩).anyS
theorem info_min : (Tryz.prog.info? 38).map (·.size) = some 3 := by kernel_rfl
theorem bel_lo {B C : Nat} {a b c : World} (h : Below B a b) (k : Below C b c) (hl : B ≤ C) : Below B a c := h.trans (k.mono hl)
theorem Blk.lo {w w' : World} {g B : Nat} {t : TypeId} {cs : Array Value} (h : Blk w g t cs) (hb : Below B w w') (hg : g < B) : Blk w' g t cs := (hb.block g hg).trans h
theorem intl_off {w : World} {A : Option Addr} {l c : Nat} {xs : List Int} (h : SlIs intR w A l c xs) {v : Value} {e : TypeId} {S : List Nat} {B : Nat} {W : World} {ys : List Int} (hr : RowO intR e S B W v ys) (hB : w.heap.size ≤ B) : Off (ownL v) A l :=
  off_before h fun k hk => by have := (hr.lt (ownL_mem.1 hk)).1; omega
structure LvS (B lv : Nat) (W : World) (v1 v2 : Value) (xs ws : List Int) : Prop where
  blk : Blk W lv 38 #[.int .i64 0, v1, v2]
  lt : lv < B
  r1 : RowO intR 3 [] B W v1 xs
  r2 : RowO intR 3 [] B W v2 ws
  ne : ∀ k, v1.ownBlock = some k → v2.ownBlock ≠ some k
theorem LvS.bel {B lv : Nat} {W W' : World} {v1 v2 : Value} {xs ws : List Int} (h : LvS B lv W v1 v2 xs ws) (hb : Below W.heap.size W W') : LvS B lv W' v1 v2 xs ws :=
  ⟨h.blk.bel hb, h.lt, h.r1.bel hb, h.r2.bel hb, h.ne⟩
theorem LvS.slices {B lv : Nat} {W : World} {v1 v2 : Value} {xs ws : List Int} (h : LvS B lv W v1 v2 xs ws) (h1 : xs.length ≤ 100000) (h2 : ws.length ≤ 100000) :
    ∃ A1 l1 c1 A2 l2 c2, v1 = .slice A1 l1 c1 ∧ v2 = .slice A2 l2 c2 ∧ SlIs intR W A1 l1 c1 xs ∧ SlIs intR W A2 l2 c2 ws := by
  obtain ⟨A1, c1, e1, s1⟩ := h.r1.sl (by omega)
  obtain ⟨A2, c2, e2, s2⟩ := h.r2.sl (by omega)
  exact ⟨A1, _, c1, A2, _, c2, e1, e2, s1, s2⟩
/-- The blocks that a round writes lie from lv on. -/
theorem LvS.own {B lv : Nat} {W : World} {v1 v2 : Value} {xs ws : List Int} (h : LvS B lv W v1 v2 xs ws) : ∀ k ∈ lv :: (ownL v1 ++ ownL v2), lv ≤ k ∧ k < W.heap.size := fun k hk => by
  have := h.blk.lt
  have := h.lt
  rcases List.mem_cons.1 hk with rfl | hk
  · omega
  · rcases List.mem_append.1 hk with hk | hk
    · have := h.r1.lt (ownL_mem.1 hk); omega
    · have := h.r2.lt (ownL_mem.1 hk); omega
theorem LvS.start {W : World} {lv : Nat} (h : W.heap.size = lv) : LvS (lv + 1) lv (W.alloc (.cells #[.int .i64 0, .slice none 0 0, .slice none 0 0] 38)) (.slice none 0 0) (.slice none 0 0) [] [] :=
  ⟨blk_new h _ _, by omega, RowO.nil (by simp; omega), RowO.nil (by simp; omega), fun k hk => by cases hk⟩
theorem RowO.shape {S : List Nat} {e : TypeId} {B : Nat} {W : World} {v : Value} {xs : List Int} (h : RowO intR e S B W v xs) (hs : xs.length ≤ 17592186044416) : ∃ A l c, v = .slice A l c := by
  obtain ⟨A, c, e1, -⟩ := h.sl hs
  exact ⟨A, _, c, e1⟩
/-- One round: the rows are appended to (a1, a2) and stored (s1, s2) in an order that the run draws; bx is the box of the level that is read. -/
structure LvR (B lv bx : Nat) (RC : Array Value) (W : World) (v1 v2 u1 u2 : Value) (xs ws ys zs : List Int) (a1 a2 s1 s2 : Bool) : Prop where
  blk : Blk W lv 38 #[.int .i64 0, cond s1 u1 v1, cond s2 u2 v2]
  box : Blk W bx 38 RC
  lt : lv < B
  bne : bx ≠ lv
  d1 : s1 = true → a1 = true
  d2 : s2 = true → a2 = true
  r1 : RowO intR 3 [] B W (cond a1 u1 v1) (cond a1 ys xs)
  r2 : RowO intR 3 [] B W (cond a2 u2 v2) (cond a2 zs ws)
  ne : ∀ k, (cond a1 u1 v1).ownBlock = some k → (cond a2 u2 v2).ownBlock ≠ some k
section
variable {B lv bx : Nat} {RC : Array Value} {W : World} {v1 v2 u1 u2 : Value} {xs ws ys zs : List Int} {a1 a2 s1 s2 : Bool}
theorem LvS.turn (h : LvS B lv W v1 v2 xs ws) (hb : Blk W bx 38 RC) (hn : bx ≠ lv) (u1 u2 : Value) (ys zs : List Int) : LvR B lv bx RC W v1 v2 u1 u2 xs ws ys zs false false false false :=
  ⟨h.blk, hb, h.lt, hn, fun e => (by cases e), fun e => (by cases e), h.r1, h.r2, h.ne⟩
theorem LvR.done (h : LvR B lv bx RC W v1 v2 u1 u2 xs ws ys zs true true true true) : LvS B lv W u1 u2 ys zs := ⟨h.blk, h.lt, h.r1, h.r2, h.ne⟩
theorem LvR.bel {W' : World} (h : LvR B lv bx RC W v1 v2 u1 u2 xs ws ys zs a1 a2 s1 s2) (hb : Below W.heap.size W W') : LvR B lv bx RC W' v1 v2 u1 u2 xs ws ys zs a1 a2 s1 s2 :=
  ⟨h.blk.bel hb, h.box.bel hb, h.lt, h.bne, h.d1, h.d2, h.r1.bel hb, h.r2.bel hb, h.ne⟩
theorem LvR.app1 (h : LvR B lv bx RC W v1 v2 u1 u2 xs ws ys zs false a2 s1 s2) {A : Option Addr} {m c : Nat} {ns : List Int} (hy : SlIs intR W A m c ns) (ho : Off (ownL v1) A m) (hs : xs.length + m ≤ 1099511627776) (he : xs ++ ns = ys) (ty : TypeId) :
    ∃ u W', (Builtin.append_ #[23, 23] ty #[v1, .slice A m c]).run Tryz.prog W = .ok u W' ∧ LvR B lv bx RC W' v1 v2 u u2 xs ws ys zs true a2 s1 s2 ∧ Kept (lv :: (ownL v1 ++ ownL v2)) W W' := by
  obtain rfl : s1 = false := by
    cases s1 with
    | false => rfl
    | true => exact absurd (h.d1 rfl) (by simp)
  have r1 : RowO intR 3 [] B W v1 xs := h.r1
  have hne : ∀ k, v1.ownBlock = some k → (cond a2 u2 v2).ownBlock ≠ some k := h.ne
  obtain ⟨u, W', hrun, ro, hg, hat⟩ := r1.appS ety_int (StabS.ints hy ho) ho hs ty
  have k : Kept (ownL v1) W W' := Kept.grown (Kept.refl _ _) hg (fun k hk => .inl (ownL_mem.2 hk))
  refine ⟨u, W', hrun, ⟨k.blk h.blk fun hm => r1.offBlk h.blk (by decide) (ownL_mem.1 hm), k.blk h.box fun hm => r1.offBlk h.box (by decide) (ownL_mem.1 hm), h.lt, h.bne, fun _ => rfl, h.d2, ?_, h.r2.intStep k fun k hk => hne k (ownL_mem.1 hk), fun k hk e => ?_⟩, k.more fun q hq => List.mem_cons_of_mem _ (List.mem_append.2 (.inl hq))⟩
  · rw [← he]; exact ro
  · rcases hat k hk with q | q
    · exact hne k q e
    · have := (h.r2.lt e).2
      omega
theorem LvR.app2 (h : LvR B lv bx RC W v1 v2 u1 u2 xs ws ys zs a1 false s1 s2) {A : Option Addr} {m c : Nat} {ns : List Int} (hy : SlIs intR W A m c ns) (ho : Off (ownL v2) A m) (hs : ws.length + m ≤ 1099511627776) (he : ws ++ ns = zs) (ty : TypeId) :
    ∃ u W', (Builtin.append_ #[23, 23] ty #[v2, .slice A m c]).run Tryz.prog W = .ok u W' ∧ LvR B lv bx RC W' v1 v2 u1 u xs ws ys zs a1 true s1 s2 ∧ Kept (lv :: (ownL v1 ++ ownL v2)) W W' := by
  obtain rfl : s2 = false := by
    cases s2 with
    | false => rfl
    | true => exact absurd (h.d2 rfl) (by simp)
  have r2 : RowO intR 3 [] B W v2 ws := h.r2
  have hne : ∀ k, (cond a1 u1 v1).ownBlock = some k → v2.ownBlock ≠ some k := h.ne
  obtain ⟨u, W', hrun, ro, hg, hat⟩ := r2.appS ety_int (StabS.ints hy ho) ho hs ty
  have k : Kept (ownL v2) W W' := Kept.grown (Kept.refl _ _) hg (fun k hk => .inl (ownL_mem.2 hk))
  refine ⟨u, W', hrun, ⟨k.blk h.blk fun hm => r2.offBlk h.blk (by decide) (ownL_mem.1 hm), k.blk h.box fun hm => r2.offBlk h.box (by decide) (ownL_mem.1 hm), h.lt, h.bne, h.d1, fun _ => rfl, h.r1.intStep k fun k hk e => hne k e (ownL_mem.1 hk), ?_, fun k hk e => ?_⟩, k.more fun q hq => List.mem_cons_of_mem _ (List.mem_append.2 (.inr hq))⟩
  · rw [← he]; exact ro
  · rcases hat k e with q | q
    · exact hne k hk q
    · have := (h.r1.lt hk).2
      omega
theorem LvR.set1 (h : LvR B lv bx RC W v1 v2 u1 u2 xs ws ys zs true a2 s1 s2) : LvR B lv bx RC (W.setCell ⟨lv, 1, none⟩ u1) v1 v2 u1 u2 xs ws ys zs true a2 true s2 ∧ Kept (lv :: (ownL v1 ++ ownL v2)) W (W.setCell ⟨lv, 1, none⟩ u1) := by
  have k : Kept [lv] W (W.setCell ⟨lv, 1, none⟩ u1) := (Kept.refl _ _).set (.inl (by simp)) _
  exact ⟨⟨h.blk.set_ 1 u1, h.box.far h.bne _, h.lt, h.bne, fun _ => rfl, h.d2, h.r1.intStep k (by simpa using h.r1.offBlk h.blk (by decide)), h.r2.intStep k (by simpa using h.r2.offBlk h.blk (by decide)), h.ne⟩, (Kept.refl _ _).set (.inl (by simp)) _⟩
theorem LvR.set2 (h : LvR B lv bx RC W v1 v2 u1 u2 xs ws ys zs a1 true s1 s2) : LvR B lv bx RC (W.setCell ⟨lv, 2, none⟩ u2) v1 v2 u1 u2 xs ws ys zs a1 true s1 true ∧ Kept (lv :: (ownL v1 ++ ownL v2)) W (W.setCell ⟨lv, 2, none⟩ u2) := by
  have k : Kept [lv] W (W.setCell ⟨lv, 2, none⟩ u2) := (Kept.refl _ _).set (.inl (by simp)) _
  exact ⟨⟨h.blk.set_ 2 u2, h.box.far h.bne _, h.lt, h.bne, h.d1, fun _ => rfl, h.r1.intStep k (by simpa using h.r1.offBlk h.blk (by decide)), h.r2.intStep k (by simpa using h.r2.offBlk h.blk (by decide)), h.ne⟩, (Kept.refl _ _).set (.inl (by simp)) _⟩
theorem LvR.m1 (h : LvR B lv bx RC W v1 v2 u1 u2 xs ws ys zs a1 a2 s1 s2) : W.cell? ⟨lv, 1, none⟩ = some (cond s1 u1 v1) := by rw [h.blk.cell 1]; rfl
theorem LvR.m2 (h : LvR B lv bx RC W v1 v2 u1 u2 xs ws ys zs a1 a2 s1 s2) : W.cell? ⟨lv, 2, none⟩ = some (cond s2 u2 v2) := by rw [h.blk.cell 2]; rfl
end
end Go.Proofs.YtdkjanbfheehoaaGreat

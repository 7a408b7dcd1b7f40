/- Frames in which several old blocks are written; rows of pairs; the mirror of reduct.Rounds (plain). -/
import Derived.Test.YtcbkkjcleiibfaaOwn
import Derived.Test.YtcbkkjcleiibfaaSem
namespace Go.Proofs.Ytcbkkjcleiibfaa
open Go.RowKit

/-- Of the blocks of w only those in S have turned. -/
structure Kept (S : List Nat) (w w' : World) : Prop where
  os : w'.os = w.os
  tape : w'.tape = w.tape
  output : w'.output = w.output
  size : w.heap.size ≤ w'.heap.size
  block : ∀ k, k < w.heap.size → k ∉ S → w'.heap[k]? = w.heap[k]?
theorem Kept.refl (S : List Nat) (w : World) : Kept S w w := ⟨rfl, rfl, rfl, Nat.le_refl _, fun _ _ _ => rfl⟩
theorem Kept.bel {S : List Nat} {w a b : World} (h : Kept S w a) (hb : Below a.heap.size a b) : Kept S w b :=
  ⟨hb.os.trans h.os, hb.tape.trans h.tape, hb.output.trans h.output, Nat.le_trans h.size hb.size, fun k hk hs => (hb.block k (Nat.lt_of_lt_of_le hk h.size)).trans (h.block k hk hs)⟩
theorem Kept.alloc {S : List Nat} {w a : World} (h : Kept S w a) (o : Obj) : Kept S w (a.alloc o) := h.bel (bel_alloc a o)
theorem Kept.drew {S : List Nat} {w a : World} (h : Kept S w a) : Kept S w a.drew := ⟨h.os, h.tape, h.output, h.size, h.block⟩
theorem Kept.grown {S : List Nat} {w a b : World} {row : Option Nat} (h : Kept S w a) (hg : a.grownBy b row) (hr : ∀ k, row = some k → k ∈ S ∨ w.heap.size ≤ k) : Kept S w b :=
  ⟨hg.os.trans h.os, hg.tape.trans h.tape, hg.output.trans h.output, Nat.le_trans h.size hg.size, fun k hk hs => (hg.block k (Nat.lt_of_lt_of_le hk h.size) (fun e => by
    rcases hr k e.symm with h1 | h1
    · exact hs h1
    · omega)).trans (h.block k hk hs)⟩
theorem Kept.set {S : List Nat} {w a : World} (h : Kept S w a) {p : Addr} (hp : p.block ∈ S ∨ w.heap.size ≤ p.block) (u : Value) : Kept S w (a.setCell p u) :=
  ⟨h.os, h.tape, h.output, by simpa [World.setCell] using h.size, fun k hk hs => (Below.heap_setCell a p u k (by
    rintro rfl
    rcases hp with h1 | h1
    · exact hs h1
    · omega)).trans (h.block k hk hs)⟩
theorem Kept.trans {S : List Nat} {a b c : World} (h : Kept S a b) (k : Kept S b c) : Kept S a c :=
  ⟨k.os.trans h.os, k.tape.trans h.tape, k.output.trans h.output, Nat.le_trans h.size k.size, fun i hi hs => (k.block i (Nat.lt_of_lt_of_le hi h.size) hs).trans (h.block i hi hs)⟩
theorem Kept.more {S T : List Nat} {w a : World} (h : Kept S w a) (hs : ∀ k ∈ S, k ∈ T) : Kept T w a :=
  ⟨h.os, h.tape, h.output, h.size, fun k hk ht => h.block k hk (fun h1 => ht (hs k h1))⟩
theorem Kept.below {S : List Nat} {B : Nat} {w a b : World} (hb : Below B w a) (h : Kept S a b) (hB : B ≤ a.heap.size) (hS : ∀ k ∈ S, B ≤ k) : Below B w b :=
  ⟨h.os.trans hb.os, h.tape.trans hb.tape, h.output.trans hb.output, Nat.le_trans hb.size h.size, fun k hk => (h.block k (by omega) (fun hs => by have := hS k hs; omega)).trans (hb.block k hk)⟩
theorem Kept.cell {S : List Nat} {w w' : World} (h : Kept S w w') {a : Addr} {v : Value} (hc : w.cell? a = some v) (hs : a.block ∉ S) : w'.cell? a = some v := by
  rw [World.cell?_of_block (h.block _ (World.block_lt_of_cell? w _ hc) hs)]; exact hc
theorem Kept.blk {S : List Nat} {w w' : World} (h : Kept S w w') {g : Nat} {t : TypeId} {cs : Array Value} (hb : Blk w g t cs) (hs : g ∉ S) : Blk w' g t cs := (h.block g hb.lt hs).trans hb
theorem Kept.froz {S : List Nat} {w w' : World} (h : Kept S w w') {a : Addr} (hl : a.block < w.heap.size) (hs : a.block ∉ S) : w'.frozen? a = w.frozen? a := World.frozen?_of_block (h.block _ hl hs)

theorem Blk.row {w : World} {g : Nat} {t : TypeId} {cs : Array Value} (h : Blk w g t cs) (cs' : Array Value) : Blk (w.setRow g cs') g t cs' := setRow_heap w g cs cs' t (0, 0) h
theorem Kept.row {S : List Nat} {w a : World} (h : Kept S w a) {g : Nat} (hg : g ∈ S ∨ w.heap.size ≤ g) (cs : Array Value) : Kept S w (a.setRow g cs) :=
  ⟨h.os, h.tape, h.output, by rw [size_setRow]; exact h.size, fun k hk hs => (setRow_other a g k cs (by
    rintro rfl
    rcases hg with h1 | h1
    · exact hs h1
    · omega)).trans (h.block k hk hs)⟩
/-- A struct result out of its block, and a second result. -/
theorem results_row_tmp {P : Program} {fn : Func} {p q : Tmp} {ty : TypeId} (h : fn.results = #[.cell p ty, .tmp q]) (tmps : Array Value) (w : World) (g : Nat) (t : TypeId) (cs : Array Value) (d : TypeDesc) (v : Value)
    (hp : tmps.getD p undef = .pointer (some ⟨g, 0, none⟩)) (hv : tmps.getD q undef = v) (hg : Blk w g t cs)
    (hu : P.underlying ty = some d) (hd : (match d with | .struct _ | .array _ _ => true | _ => false) = true) (hi : (P.info? ty).map (·.size) = some cs.size) :
    (results fn tmps).run P w = .ok (.tuple #[.agg cs, v]) w := by
  have hp' : tmps[p]?.getD undef = .pointer (some ⟨g, 0, none⟩) := by simpa using hp
  have hv' : tmps[q]?.getD undef = v := by simpa using hv
  simp [results, h, hp', hv', asAddr, run_loadVar_row w g t ty cs (0, 0) d hg hu hd hi]

/-- Pairs of ints. -/
def pairR : Rep (Int × Int) where
  size := 2
  pos := by decide
  is := fun _ cs x => cs = [.int .i64 x.1, .int .i64 x.2] ∧ I64 x.1 ∧ I64 x.2
  len := by rintro w cs x ⟨rfl, _⟩; rfl
  ext := fun h _ => h
  one := by rintro w cs x ⟨rfl, _⟩ u hu; simp at hu; rcases hu with rfl | rfl <;> rfl
def pairCs (xs : List (Int × Int)) : List Value := xs.flatMap fun x => [.int .i64 x.1, .int .i64 x.2]
theorem pairCs_len (xs : List (Int × Int)) : (pairCs xs).length = xs.length * 2 := by
  unfold pairCs
  induction xs with
  | nil => rfl
  | cons x r ih => simp [List.flatMap_cons] at ih ⊢; omega
theorem pairCs_at : ∀ (xs : List (Int × Int)) (i : Nat) (x : Int × Int), xs[i]? = some x → ((pairCs xs).drop (i * 2)).take 2 = [.int .i64 x.1, .int .i64 x.2]
  | [], i, x, h => by simp at h
  | y :: r, 0, x, h => by simp at h; subst h; rfl
  | y :: r, i + 1, x, h => by
    have := pairCs_at r i x (by simpa using h)
    rw [show (i + 1) * 2 = (i * 2) + 2 by omega]
    exact this
def OwnP (w : World) (base : Nat) (v : Value) (l : Nat) (xs : List (Int × Int)) : Prop := l = xs.length ∧ w.ownsRow base 63 2 v l (pairCs xs)
theorem OwnP.nil (w : World) (base : Nat) : OwnP w base (.slice none 0 0) 0 [] := ⟨rfl, World.ownsRow_nil w base _ _⟩
theorem OwnP.len {w : World} {base : Nat} {v : Value} {l : Nat} {xs : List (Int × Int)} (h : OwnP w base v l xs) : l = xs.length := h.1
theorem OwnP.kept {w w' : World} {base : Nat} {v : Value} {l : Nat} {xs : List (Int × Int)} {row : Option Nat} (h : OwnP w base v l xs) (hg : w.grownBy w' row) (hne : v.ownBlock = none ∨ v.ownBlock ≠ row) : OwnP w' base v l xs := ⟨h.1, h.2.kept hg hne⟩
theorem OwnP.keptS {w w' : World} {base : Nat} {v : Value} {l : Nat} {xs : List (Int × Int)} {S : List Nat} (h : OwnP w base v l xs) (hk : Kept S w w') (hne : ∀ k, v.ownBlock = some k → k ∉ S) : OwnP w' base v l xs := by
  refine ⟨h.1, h.2.1, ?_⟩
  rcases h.2.2 with h2 | ⟨g, cap, cur, rfl, b, c, d⟩
  · exact .inl h2
  · exact .inr ⟨g, cap, cur, rfl, b, (hk.block g (h.2.lt g rfl).2 (hne g rfl)).trans c, d⟩
theorem OwnI.keptS {w w' : World} {base : Nat} {v : Value} {l : Nat} {xs : List Int} {S : List Nat} (h : OwnI w base v l xs) (hk : Kept S w w') (hne : ∀ k, v.ownBlock = some k → k ∉ S) : OwnI w' base v l xs := by
  refine ⟨h.1, h.2.1, ?_⟩
  rcases h.2.2 with h2 | ⟨g, cap, cur, rfl, b, c, d⟩
  · exact .inl h2
  · exact .inr ⟨g, cap, cur, rfl, b, (hk.block g (h.2.lt g rfl).2 (hne g rfl)).trans c, d⟩
theorem OwnP.sl {w : World} {base : Nat} {v : Value} {l : Nat} {xs : List (Int × Int)} (h : OwnP w base v l xs) (hs : l ≤ 17592186044416) (hx : ∀ x ∈ xs, I64 x.1 ∧ I64 x.2) : ∃ A c, v = .slice A l c ∧ SlIs pairR w A l c xs :=
  SlIs.of_own (R := pairR) h.2 h.1 hs (fun i x hxi => ⟨pairCs_at xs i x hxi, (hx x (List.mem_of_getElem? hxi)).1, (hx x (List.mem_of_getElem? hxi)).2⟩)
theorem SlIs.pair {w : World} {A : Option Addr} {l c : Nat} {xs : List (Int × Int)} (h : SlIs pairR w A l c xs) {k : Nat} {x : Int × Int} (hx : xs[k]? = some x) :
    ∃ b off, A = some ⟨b, off, none⟩ ∧ b < w.heap.size ∧ w.cell? ⟨b, off + k * 2, none⟩ = some (.int .i64 x.1) ∧ w.cell? ⟨b, off + k * 2 + 1, none⟩ = some (.int .i64 x.2) ∧ I64 x.1 ∧ I64 x.2 := by
  obtain ⟨b, off, cs, e, hl, ⟨rfl, hi1, hi2⟩, hc⟩ := h.at_ hx
  exact ⟨b, off, e, hl, by have := hc 0 _ rfl; simpa [pairR] using this, by have := hc 1 _ rfl; simpa [pairR, Nat.add_assoc] using this, hi1, hi2⟩
theorem info_pair : (Try.prog.info? 63).map (fun i => (i.zero, i.size, i.bytes)) = some (some (.agg #[.int .i64 0, .int .i64 0]), 2, 16) := by kernel_rfl
/-- append(v, [2]int{y, z}), the new element being boxed first. -/
theorem appP {w : World} {base : Nat} {v : Value} {l : Nat} {xs : List (Int × Int)} (h : OwnP w base v l xs) (y z : Int) (hs : l < 4398046511104) (hb : base ≤ w.heap.size) (ty : TypeId) :
    ∃ v' w', (Builtin.append_ #[62, 62] ty #[v, .slice (some ⟨w.heap.size, 0, none⟩) 1 1]).run Try.prog (w.alloc (.cells #[.int .i64 y, .int .i64 z] 63)) = .ok v' w' ∧ OwnP w' base v' (l + 1) (xs ++ [(y, z)]) ∧ w.grownBy w' v.ownBlock ∧
      (∀ k, v'.ownBlock = some k → v.ownBlock = some k ∨ w.heap.size ≤ k) := by
  obtain ⟨i0, hi0, hz0, hz1, hz2⟩ := info_parts info_pair
  obtain ⟨v', w', hrun, h2, h3, _, h5⟩ := run_append_own_at (P := Try.prog) (w.alloc (.cells #[.int .i64 y, .int .i64 z] 63)) base 62 ty 63 i0 _ 2 16 Try.underlying62 hi0 hz0 hz1 hz2 rfl (by omega) v l _ (h.2.alloc _) ⟨w.heap.size, 0, none⟩ 1 1 [.int .i64 y, .int .i64 z] rfl
    (by intro j u hj; match j, hj with
        | 0, hj => simp at hj; subst hj; simp [Addr.add]
        | 1, hj => simp at hj; subst hj; simp [Addr.add]
        | j + 2, hj => simp at hj) (by simp [Value.oneCell']) (by unfold maxLen; omega) (by omega) (by simp; omega)
  refine ⟨v', w', hrun, ⟨by rw [h.1]; simp, by simpa [pairCs] using h2⟩, ⟨h3.os, h3.tape, h3.output, Nat.le_trans (by simp) h3.size, fun k hk hne => ?_⟩, fun k hk => ?_⟩
  · rw [h3.block k (by simp; omega) hne]; exact Below.heap_alloc w _ k hk
  · rcases h5 with h5 | h5 <;> rw [h5] at hk
    · exact .inl hk
    · simp at hk; exact .inr (by omega)
end Go.Proofs.Ytcbkkjcleiibfaa

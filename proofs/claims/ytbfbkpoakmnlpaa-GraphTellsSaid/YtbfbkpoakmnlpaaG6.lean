/- Several texts in one: Exa, Stp, Rd6, Awk, Til. -/
import Derived.Test.YtbfbkpoakmnlpaaG2
import Derived.Test.YtbfbkpoakmnlpaaG4
import Derived.Test.YtbfbkpoakmnlpaaRd8
import Derived.Test.YtbfbkpoakmnlpaaRd5
import Derived.Test.YtbfbkpoakmnlpaaGZ
import Derived.Test.YtbfbkpoakmnlpaaG1
import Derived.StillTail
/- The example of chapter 19 (ostlerlaw19.example); slices out of blocks known whole. -/
namespace Go.Proofs.Ytbfbkpoakmnlpaa
open Go.RowKit

theorem sl_of_cells {α : Type} {R : Rep α} {W : World} {g l : Nat} {t : TypeId} {cs : Array Value} {xs : List α} (h : Blk W g t cs) (hl : l = xs.length) (hs : l ≤ 17592186044416)
    (hc : ∀ i x, xs[i]? = some x → ∃ c, R.is W c x ∧ ∀ j u, c[j]? = some u → cs[i * R.size + j]? = some u) : SlIs R W (some ⟨g, 0, none⟩) l l xs := by
  refine ⟨hl, Nat.le_refl _, ⟨by unfold maxLen; omega, hs⟩, fun _ => ⟨_, rfl, h.lt, fun i x hx => ?_⟩⟩
  obtain ⟨c, h1, h2⟩ := hc i x hx
  refine ⟨c, h1, fun j u hu => ?_⟩
  rw [add_none, Nat.zero_add, h.cell]
  exact h2 j u hu
theorem sl_ints {W : World} {g l : Nat} {t : TypeId} (xs : List Int) (h : Blk W g t (xs.map (Value.int .i64)).toArray) (hl : l = xs.length) (hs : l ≤ 17592186044416) (hx : ∀ x ∈ xs, I64 x) : SlIs intR W (some ⟨g, 0, none⟩) l l xs :=
  sl_of_cells h hl hs (fun i x hi => ⟨[.int .i64 x], ⟨rfl, hx x (List.mem_of_getElem? hi)⟩, fun j u hu => by
    match j, hu with
    | 0, hu => simp at hu; subst hu; simp [intR, hi]
    | j + 1, hu => simp at hu⟩)
/-- Blocks laid one behind the other. -/
def allocs : World → List Obj → World
  | w, [] => w
  | w, o :: r => allocs (w.alloc o) r
theorem allocs_bel : ∀ (os : List Obj) (w : World), Below w.heap.size w (allocs w os)
  | [], _ => Below.refl _ _
  | o :: r, w => bel_trans (bel_alloc w o) (allocs_bel r (w.alloc o))
theorem allocs_heap : ∀ (os : List Obj) (w : World) (i : Nat) (o : Obj), os[i]? = some o → (allocs w os).heap[w.heap.size + i]? = some o
  | [], _, _, _, h => by simp at h
  | a :: r, w, 0, o, h => by
    simp at h; subst h
    exact ((allocs_bel r (w.alloc a)).block w.heap.size (by simp)).trans (heap_alloc_new w a)
  | a :: r, w, i + 1, o, h => by
    have := allocs_heap r (w.alloc a) i o (by simpa using h)
    rw [World.size_alloc] at this
    rw [show w.heap.size + (i + 1) = w.heap.size + 1 + i by omega]; exact this
theorem allocs_blk {w : World} {os : List Obj} {t : TypeId} {cs : Array Value} (i : Nat) (h : os[i]? = some (.cells cs t)) : Blk (allocs w os) (w.heap.size + i) t cs := allocs_heap os w i _ h
def exR1 : GRule := ⟨false, [1], false, 0, [-2], []⟩
def exR2 : GRule := ⟨false, [2], false, 0, [-1], []⟩
def exR3 : GRule := ⟨true, [3], false, 0, [1], []⟩
def exR4 : GRule := ⟨false, [4], true, 3, [-2, 3], [1, 2]⟩
def exR5 : GRule := ⟨false, [], false, 0, [-3, 4], []⟩
def exP : GProg := ⟨4, [ByteArray.empty, ByteArray.empty, ByteArray.empty, ByteArray.empty], [], [exR1, exR2, exR3, exR4, exR5], []⟩
def exO (n : Nat) : List Obj := [.cells #[.int .i64 4, .slice (some ⟨n + 1, 0, none⟩) 4 4, .slice none 0 0, .slice (some ⟨n + 12, 0, none⟩) 5 5, .slice none 0 0] 27,
  .cells #[.string ByteArray.empty, .string ByteArray.empty, .string ByteArray.empty, .string ByteArray.empty] 9,
  .cells #[.int .i64 (1)] 3,
  .cells #[.int .i64 (-2)] 3,
  .cells #[.int .i64 (2)] 3,
  .cells #[.int .i64 (-1)] 3,
  .cells #[.int .i64 (3)] 3,
  .cells #[.int .i64 (1)] 3,
  .cells #[.int .i64 (4)] 3,
  .cells #[.int .i64 (-2), .int .i64 (3)] 3,
  .cells #[.int .i64 (1), .int .i64 (2)] 3,
  .cells #[.int .i64 (-3), .int .i64 (4)] 3,
  .cells #[.bool false, .slice (some ⟨n + 2, 0, none⟩) 1 1, .bool false, .int .i64 0, .slice (some ⟨n + 3, 0, none⟩) 1 1, .slice none 0 0, .bool false, .slice (some ⟨n + 4, 0, none⟩) 1 1, .bool false, .int .i64 0, .slice (some ⟨n + 5, 0, none⟩) 1 1, .slice none 0 0, .bool true, .slice (some ⟨n + 6, 0, none⟩) 1 1, .bool false, .int .i64 0, .slice (some ⟨n + 7, 0, none⟩) 1 1, .slice none 0 0, .bool false, .slice (some ⟨n + 8, 0, none⟩) 1 1, .bool true, .int .i64 3, .slice (some ⟨n + 9, 0, none⟩) 2 2, .slice (some ⟨n + 10, 0, none⟩) 2 2, .bool false, .slice none 0 0, .bool false, .int .i64 0, .slice (some ⟨n + 11, 0, none⟩) 2 2, .slice none 0 0] 54]
end Go.Proofs.Ytbfbkpoakmnlpaa
/- append of ints at a step of a region that draws; rows without an element. -/
namespace Go.Proofs.Ytbfbkpoakmnlpaa
open Go.RowKit

/-- append(v, xs...) at ints, in a region that draws its order. -/
theorem step_appS {ops : Array Oper} {o : Oper} {a : Act} {K : Act → World → Prop} {Q : Exit → Act → World → Prop} {E : Prop} {w : World} (hgd : o.guard = none) (s x : Operand)
    (ho : o.op = .call { callee := .builtin .append, args := #[s, x], argTypes := #[23, 23] })
    {base : Nat} {v : Value} {l : Nat} {xs : List Int} {A : Option Addr} {m c : Nat} {ys : List Int} (hs : a.eval s = v) (hx : a.eval x = .slice A m c)
    (h : OwnI w base v l xs) (hy : SlIs intR w A m c ys) (hl : l + m ≤ 17592186044416) (hb : base ≤ w.heap.size)
    (hK : ∀ v' w', OwnI w' base v' (l + m) (xs ++ ys) → w.grownBy w' v.ownBlock → (∀ k, v'.ownBlock = some k → v.ownBlock = some k ∨ w.heap.size ≤ k) → K (a.put o.dst v') w') :
    if Region.wanted o (yielded ops a.tmps) = true then Oper.wp Try.prog o a w K Q else E := by
  have hw : Region.wanted o (yielded ops a.tmps) = true := by simp [Region.wanted, hgd]
  rw [if_pos hw]
  obtain ⟨v', w', hrun, h1, h2, h3⟩ := appS h hy hl hb o.type
  unfold Oper.wp execOp
  simp only [ho, resolve, invoke, builtin, Sem.run_bind, Sem.run_pure, Result.andThen_ok, List.map_toArray, List.map_cons, List.map_nil, hs, hx, hrun]
  exact hK _ _ h1 h2 h3
/-- A row that was made without an element. -/
theorem own_empty {w : World} {g base : Nat} (hg : w.heap.size = g) (hb : base ≤ g) : OwnI (w.alloc (.cells #[] 3)) base (.slice (some ⟨g, 0, none⟩) 0 0) 0 [] := by
  subst hg
  have h : OwnI (w.alloc (.cells #[] 3)) w.heap.size (.slice (some ⟨w.heap.size, 0, none⟩) 0 0) 0 [] := ⟨rfl, World.ownsRow_made _ #[] 0 (Nat.le_refl _) (by simp [maxLen]) (by simp)⟩
  exact h.mono hb
/-- One goal behind a region whose orders all end alike. -/
theorem wp_cut {P : Program} {c : Code} {Q : Exit → Act → World → Prop} {a : Act} {w : World} (A : Act) (W : World) (h : c.wp P (fun e a' w' => e = Exit.normal ∧ a' = A ∧ w' = W) a w) (k : Q Exit.normal A W) : c.wp P Q a w :=
  Code.wp_mono (fun _ _ _ ⟨h1, h2, h3⟩ => by rw [h1, h2, h3]; exact k) h
/-- One goal behind a region whose orders all end in a new row (its block, its capacity, the world). -/
theorem wp_cut3 {P : Program} {c : Code} {Q : Exit → Act → World → Prop} {a : Act} {w : World} (F : Nat → Nat → World → Prop) (A : Nat → Nat → World → Act) (V : Nat → Nat → World → World)
    (h : c.wp P (fun e a' w' => e = Exit.normal ∧ ∃ g k x, F g k x ∧ a' = A g k x ∧ w' = V g k x) a w) (k : ∀ g k x, F g k x → Q Exit.normal (A g k x) (V g k x)) : c.wp P Q a w :=
  Code.wp_mono (fun _ _ _ ⟨h1, g, c, x, hF, h2, h3⟩ => by rw [h1, h2, h3]; exact k g c x hF) h
/-- One goal behind a region whose orders all end in a slice that a callee made. -/
theorem wp_cut5 {P : Program} {c : Code} {Q : Exit → Act → World → Prop} {a : Act} {w : World} (F : Option Addr → Nat → Nat → World → Prop) (A : Option Addr → Nat → Nat → World → Act) (V : Option Addr → Nat → Nat → World → World)
    (h : c.wp P (fun e a' w' => e = Exit.normal ∧ ∃ g l k x, F g l k x ∧ a' = A g l k x ∧ w' = V g l k x) a w) (k : ∀ g l k x, F g l k x → Q Exit.normal (A g l k x) (V g l k x)) : c.wp P Q a w :=
  Code.wp_mono (fun _ _ _ ⟨h1, g, l, c, x, hF, h2, h3⟩ => by rw [h1, h2, h3]; exact k g l c x hF) h
end Go.Proofs.Ytbfbkpoakmnlpaa
/- Contracts: reduct.Least, Body. -/
namespace Go.Proofs.Ytbfbkpoakmnlpaa
open Go.RowKit

end Go.Proofs.Ytbfbkpoakmnlpaa
/- The examples of chapter 19 stand (ostlerlaw19.awake). -/
namespace Go.Proofs.Ytbfbkpoakmnlpaa
open Go.RowKit

def exA : List GRule := [⟨false, [1], false, 0, [], []⟩, ⟨false, [3], false, 0, [1], []⟩, ⟨false, [4], true, 2, [3], [2]⟩]
def exB : List GRule := [⟨false, [2], false, 0, [], []⟩, ⟨false, [4], true, 3, [3], [2]⟩, ⟨false, [], false, 0, [4], []⟩]
theorem ex_c1 : checkE exP [1, 3, 4] = 0 := by kernel_rfl
theorem ex_c2 : checkE exP [2] = 0 := by kernel_rfl
theorem ex_c3 : checkE exP [] = 0 := by kernel_rfl
theorem ex_c4 : checkE exP [2, 2] = 2 := by kernel_rfl
theorem ex_m : modelB exP [1, 3, 4] = true := by kernel_rfl
theorem ex_b : brokenI exP [] = 0 := by kernel_rfl
theorem ex_r1 : reductL exP.rules [1, 3, 4] = exA := by kernel_rfl
theorem ex_r2 : reductL exP.rules [2] = exB := by kernel_rfl
theorem ex_d : defB (4 : Nat) exA = true := by kernel_rfl
theorem ex_l : leastL exA 4 = [1, 3, 4] := by kernel_rfl
theorem ex_o : roundsL exA 4 = [1, 0, 2, 3] := by kernel_rfl
def exAO (n : Nat) : List Obj := [.cells #[.int .i64 (1)] 3,
  .cells #[.int .i64 (3)] 3,
  .cells #[.int .i64 (1)] 3,
  .cells #[.int .i64 (4)] 3,
  .cells #[.int .i64 (3)] 3,
  .cells #[.int .i64 (2)] 3,
  .cells #[.bool false, .slice (some ⟨n + 0, 0, none⟩) 1 1, .bool false, .int .i64 0, .slice none 0 0, .slice none 0 0, .bool false, .slice (some ⟨n + 1, 0, none⟩) 1 1, .bool false, .int .i64 0, .slice (some ⟨n + 2, 0, none⟩) 1 1, .slice none 0 0, .bool false, .slice (some ⟨n + 3, 0, none⟩) 1 1, .bool true, .int .i64 2, .slice (some ⟨n + 4, 0, none⟩) 1 1, .slice (some ⟨n + 5, 0, none⟩) 1 1] 54]
theorem exA_sl (w : World) : SlIs ruleR (allocs w (exAO w.heap.size)) (some ⟨w.heap.size + 1 + 1 + 1 + 1 + 1 + 1, 0, none⟩) 3 3 exA := by
  refine sl_of_cells (allocs_blk (os := exAO w.heap.size) 6 rfl) rfl (by omega) (fun i x hx => ?_)
  match i, hx with
  | 0, hx => have hx' : _ = x := Option.some.inj hx; subst hx'; exact ⟨_, ⟨_, _, _, rfl, ⟨_, _, _, rfl, sl_ints [1] (allocs_blk 0 rfl) rfl (by simp) (by simp [I64])⟩, by simp [I64], ⟨none, 0, 0, rfl, SlIs.nil _ _⟩, ⟨none, 0, 0, rfl, SlIs.nil _ _⟩⟩, fun j u hu => by
      match j, hu with
      | 0, hu => exact hu
      | 1, hu => exact hu
      | 2, hu => exact hu
      | 3, hu => exact hu
      | 4, hu => exact hu
      | 5, hu => exact hu
      | j + 6, hu => simp at hu⟩
  | 1, hx => have hx' : _ = x := Option.some.inj hx; subst hx'; exact ⟨_, ⟨_, _, _, rfl, ⟨_, _, _, rfl, sl_ints [3] (allocs_blk 1 rfl) rfl (by simp) (by simp [I64])⟩, by simp [I64], ⟨_, _, _, rfl, sl_ints [1] (allocs_blk 2 rfl) rfl (by simp) (by simp [I64])⟩, ⟨none, 0, 0, rfl, SlIs.nil _ _⟩⟩, fun j u hu => by
      match j, hu with
      | 0, hu => exact hu
      | 1, hu => exact hu
      | 2, hu => exact hu
      | 3, hu => exact hu
      | 4, hu => exact hu
      | 5, hu => exact hu
      | j + 6, hu => simp at hu⟩
  | 2, hx => have hx' : _ = x := Option.some.inj hx; subst hx'; exact ⟨_, ⟨_, _, _, rfl, ⟨_, _, _, rfl, sl_ints [4] (allocs_blk 3 rfl) rfl (by simp) (by simp [I64])⟩, by simp [I64], ⟨_, _, _, rfl, sl_ints [3] (allocs_blk 4 rfl) rfl (by simp) (by simp [I64])⟩, ⟨_, _, _, rfl, sl_ints [2] (allocs_blk 5 rfl) rfl (by simp) (by simp [I64])⟩⟩, fun j u hu => by
      match j, hu with
      | 0, hu => exact hu
      | 1, hu => exact hu
      | 2, hu => exact hu
      | 3, hu => exact hu
      | 4, hu => exact hu
      | 5, hu => exact hu
      | j + 6, hu => simp at hu⟩
  | i + 3, hx => simp [exA] at hx
def exBO (n : Nat) : List Obj := [.cells #[.int .i64 (2)] 3,
  .cells #[.int .i64 (4)] 3,
  .cells #[.int .i64 (3)] 3,
  .cells #[.int .i64 (2)] 3,
  .cells #[.int .i64 (4)] 3,
  .cells #[.bool false, .slice (some ⟨n + 0, 0, none⟩) 1 1, .bool false, .int .i64 0, .slice none 0 0, .slice none 0 0, .bool false, .slice (some ⟨n + 1, 0, none⟩) 1 1, .bool true, .int .i64 3, .slice (some ⟨n + 2, 0, none⟩) 1 1, .slice (some ⟨n + 3, 0, none⟩) 1 1, .bool false, .slice none 0 0, .bool false, .int .i64 0, .slice (some ⟨n + 4, 0, none⟩) 1 1, .slice none 0 0] 54]
theorem exB_sl (w : World) : SlIs ruleR (allocs w (exBO w.heap.size)) (some ⟨w.heap.size + 1 + 1 + 1 + 1 + 1, 0, none⟩) 3 3 exB := by
  refine sl_of_cells (allocs_blk (os := exBO w.heap.size) 5 rfl) rfl (by omega) (fun i x hx => ?_)
  match i, hx with
  | 0, hx => have hx' : _ = x := Option.some.inj hx; subst hx'; exact ⟨_, ⟨_, _, _, rfl, ⟨_, _, _, rfl, sl_ints [2] (allocs_blk 0 rfl) rfl (by simp) (by simp [I64])⟩, by simp [I64], ⟨none, 0, 0, rfl, SlIs.nil _ _⟩, ⟨none, 0, 0, rfl, SlIs.nil _ _⟩⟩, fun j u hu => by
      match j, hu with
      | 0, hu => exact hu
      | 1, hu => exact hu
      | 2, hu => exact hu
      | 3, hu => exact hu
      | 4, hu => exact hu
      | 5, hu => exact hu
      | j + 6, hu => simp at hu⟩
  | 1, hx => have hx' : _ = x := Option.some.inj hx; subst hx'; exact ⟨_, ⟨_, _, _, rfl, ⟨_, _, _, rfl, sl_ints [4] (allocs_blk 1 rfl) rfl (by simp) (by simp [I64])⟩, by simp [I64], ⟨_, _, _, rfl, sl_ints [3] (allocs_blk 2 rfl) rfl (by simp) (by simp [I64])⟩, ⟨_, _, _, rfl, sl_ints [2] (allocs_blk 3 rfl) rfl (by simp) (by simp [I64])⟩⟩, fun j u hu => by
      match j, hu with
      | 0, hu => exact hu
      | 1, hu => exact hu
      | 2, hu => exact hu
      | 3, hu => exact hu
      | 4, hu => exact hu
      | 5, hu => exact hu
      | j + 6, hu => simp at hu⟩
  | 2, hx => have hx' : _ = x := Option.some.inj hx; subst hx'; exact ⟨_, ⟨_, _, _, rfl, ⟨none, 0, 0, rfl, SlIs.nil _ _⟩, by simp [I64], ⟨_, _, _, rfl, sl_ints [4] (allocs_blk 4 rfl) rfl (by simp) (by simp [I64])⟩, ⟨none, 0, 0, rfl, SlIs.nil _ _⟩⟩, fun j u hu => by
      match j, hu with
      | 0, hu => exact hu
      | 1, hu => exact hu
      | 2, hu => exact hu
      | 3, hu => exact hu
      | 4, hu => exact hu
      | 5, hu => exact hu
      | j + 6, hu => simp at hu⟩
  | i + 3, hx => simp [exB] at hx
theorem slx (w : World) (xs : List Int) (n g : Nat) (hg : w.heap.size = g) (hn : n = xs.length) (hx : ∀ x ∈ xs, I64 x) (hs : n ≤ 17592186044416) : SlIs intR (w.alloc (.cells (xs.map (Value.int .i64)).toArray 3)) (some ⟨g, 0, none⟩) n n xs :=
  sl_ints xs (blk_new hg _ _) hn hs hx
theorem pcells {W : World} {b : Nat} {v0 v1 v2 v3 v4 : Value} (h : Blk W b 27 #[v0, v1, v2, v3, v4]) : W.cell? ⟨b, 0, none⟩ = some v0 ∧ W.cell? ⟨b, 1, none⟩ = some v1 ∧ W.cell? ⟨b, 2, none⟩ = some v2 ∧ W.cell? ⟨b, 3, none⟩ = some v3 ∧ W.cell? ⟨b, 4, none⟩ = some v4 ∧ b < W.heap.size := ⟨h.cell 0, h.cell 1, h.cell 2, h.cell 3, h.cell 4, h.lt⟩

end Go.Proofs.Ytbfbkpoakmnlpaa
/- A region that draws its order and ends in operations that wait for all others: the quiet ones in the order of the text, then the tail. -/
namespace Go.Proofs.Ytbfbkpoakmnlpaa
open Go.RowKit

theorem still_of_quiet {P : Program} {ops : Array Oper} {X : World} {Q : Act → Prop} : ∀ (l : List Oper) (a : Act), wpQuiet P ops (fun w' => w' = X) Q l a → wpStill P ops X Q l a
  | [], _, h => h
  | o :: r, a, h => by
    unfold wpQuiet at h
    unfold wpStill
    split
    · rename_i hw
      rw [if_pos hw] at h
      obtain ⟨v, h1, h2⟩ := h
      have h3 := h1 X rfl
      have h4 := still_of_quiet r _ h2
      unfold Oper.quietAt at h3
      unfold Oper.still
      generalize (execOp a.eval o).run P X = q at *
      match q, h3 with
      | .ok (.value u) w', h3 => obtain ⟨rfl, rfl⟩ := h3; exact ⟨rfl, h4⟩
      | .ok .skip w', h3 => obtain ⟨rfl, rfl⟩ := h3; exact ⟨rfl, h4⟩
      | .ok (.enter f args) w', h3 => obtain ⟨rfl, h5⟩ := h3; exact ⟨rfl, v, h5, h4⟩
    · rename_i hw
      rw [if_neg hw] at h
      exact still_of_quiet r _ h
theorem wp_region_tail {P : Program} {id : Nat} {Q : Exit → Act → World → Prop} {a : Act} {w : World} {l : List Oper} (n : Nat) (fs : List (Addr × Value)) (hm : P.follows .mixedOrders = true) (hB : Region.lexTailB .any l.toArray n = true)
    (hf : ∀ f ∈ fs, w.cell? f.1 = some f.2)
    (h : ∀ X, (∀ f ∈ fs, X.cell? f.1 = some f.2) → X = w.drew → wpQuiet P l.toArray (fun w' => w' = X) (fun a' => wpList P l.toArray Q (l.drop n) a' X) (l.take n) a) : (Code.region id l.toArray true).wp P Q a w :=
  wp_region_still_tail n hm hB (still_of_quiet _ _ (h w.drew hf rfl))
end Go.Proofs.Ytbfbkpoakmnlpaa

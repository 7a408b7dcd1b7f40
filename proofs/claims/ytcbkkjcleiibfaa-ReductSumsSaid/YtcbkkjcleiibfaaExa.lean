/- The example of chapter 19 (ostlerlaw19.example); slices out of blocks known whole. -/
import Derived.Test.YtcbkkjcleiibfaaFrm
import Derived.Test.YtcbkkjcleiibfaaRf3
import Derived.Test.YtcbkkjcleiibfaaGp5
namespace Go.Proofs.Ytcbkkjcleiibfaa
open Go.RowKit

theorem sl_of_cells {α : Type} {R : Rep α} {W : World} {g l : Nat} {t : TypeId} {cs : Array Value} {xs : List α} (h : Blk W g t cs) (hl : l = xs.length) (hs : l ≤ 17592186044416)
    (hc : ∀ i x, xs[i]? = some x → ∃ c, R.is W c x ∧ ∀ j u, c[j]? = some u → cs[i * R.size + j]? = some u) : SlIs R W (some ⟨g, 0, none⟩) l l xs := by
  refine ⟨hl, Nat.le_refl _, ⟨by unfold maxLen; omega, hs⟩, fun _ => ⟨_, rfl, h.lt, fun i x hx => ?_⟩⟩
  obtain ⟨c, h1, h2⟩ := hc i x hx
  refine ⟨c, h1, fun j u hu => ?_⟩
  rw [add_none, Nat.zero_add, h.cell]
  exact h2 j u hu
theorem sl_ints {W : World} {g l : Nat} {t : TypeId} (xs : List Int) (h : Blk W g t (xs.map (Value.int .i64)).toArray) (hl : l = xs.length) (hs : l ≤ 17592186044416) (hx : ∀ x ∈ xs, I64 x) : SlIs intR W (some ⟨g, 0, none⟩) l l xs :=
  sl_of_cells h hl hs (fun i x hi => ⟨[.int .i64 x], ⟨rfl, hx x (List.mem_of_getElem? hi)⟩, fun j u hu => by
    match j, hu with
    | 0, hu => simp at hu; subst hu; simp [intR, hi]
    | j + 1, hu => simp at hu⟩)
/-- Blocks laid one behind the other. -/
def allocs : World → List Obj → World
  | w, [] => w
  | w, o :: r => allocs (w.alloc o) r
theorem allocs_bel : ∀ (os : List Obj) (w : World), Below w.heap.size w (allocs w os)
  | [], _ => Below.refl _ _
  | o :: r, w => bel_trans (bel_alloc w o) (allocs_bel r (w.alloc o))
theorem allocs_heap : ∀ (os : List Obj) (w : World) (i : Nat) (o : Obj), os[i]? = some o → (allocs w os).heap[w.heap.size + i]? = some o
  | [], _, _, _, h => by simp at h
  | a :: r, w, 0, o, h => by
    simp at h; subst h
    exact ((allocs_bel r (w.alloc a)).block w.heap.size (by simp)).trans (heap_alloc_new w a)
  | a :: r, w, i + 1, o, h => by
    have := allocs_heap r (w.alloc a) i o (by simpa using h)
    rw [World.size_alloc] at this
    rw [show w.heap.size + (i + 1) = w.heap.size + 1 + i by omega]; exact this
theorem allocs_blk {w : World} {os : List Obj} {t : TypeId} {cs : Array Value} (i : Nat) (h : os[i]? = some (.cells cs t)) : Blk (allocs w os) (w.heap.size + i) t cs := allocs_heap os w i _ h
def exR1 : GRule := ⟨false, [1], false, 0, [-2], []⟩
def exR2 : GRule := ⟨false, [2], false, 0, [-1], []⟩
def exR3 : GRule := ⟨true, [3], false, 0, [1], []⟩
def exR4 : GRule := ⟨false, [4], true, 3, [-2, 3], [1, 2]⟩
def exR5 : GRule := ⟨false, [], false, 0, [-3, 4], []⟩
def exP : GProg := ⟨4, [ByteArray.empty, ByteArray.empty, ByteArray.empty, ByteArray.empty], [], [exR1, exR2, exR3, exR4, exR5], []⟩
def exO (n : Nat) : List Obj := [.cells #[.int .i64 4, .slice (some ⟨n + 1, 0, none⟩) 4 4, .slice none 0 0, .slice (some ⟨n + 12, 0, none⟩) 5 5, .slice none 0 0] 36,
  .cells #[.string ByteArray.empty, .string ByteArray.empty, .string ByteArray.empty, .string ByteArray.empty] 9,
  .cells #[.int .i64 (1)] 3,
  .cells #[.int .i64 (-2)] 3,
  .cells #[.int .i64 (2)] 3,
  .cells #[.int .i64 (-1)] 3,
  .cells #[.int .i64 (3)] 3,
  .cells #[.int .i64 (1)] 3,
  .cells #[.int .i64 (4)] 3,
  .cells #[.int .i64 (-2), .int .i64 (3)] 3,
  .cells #[.int .i64 (1), .int .i64 (2)] 3,
  .cells #[.int .i64 (-3), .int .i64 (4)] 3,
  .cells #[.bool false, .slice (some ⟨n + 2, 0, none⟩) 1 1, .bool false, .int .i64 0, .slice (some ⟨n + 3, 0, none⟩) 1 1, .slice none 0 0, .bool false, .slice (some ⟨n + 4, 0, none⟩) 1 1, .bool false, .int .i64 0, .slice (some ⟨n + 5, 0, none⟩) 1 1, .slice none 0 0, .bool true, .slice (some ⟨n + 6, 0, none⟩) 1 1, .bool false, .int .i64 0, .slice (some ⟨n + 7, 0, none⟩) 1 1, .slice none 0 0, .bool false, .slice (some ⟨n + 8, 0, none⟩) 1 1, .bool true, .int .i64 3, .slice (some ⟨n + 9, 0, none⟩) 2 2, .slice (some ⟨n + 10, 0, none⟩) 2 2, .bool false, .slice none 0 0, .bool false, .int .i64 0, .slice (some ⟨n + 11, 0, none⟩) 2 2, .slice none 0 0] 26]
set_option maxRecDepth 100000 in
set_option maxHeartbeats 1000000 in
theorem example_any (w : World) :
    Calls Try.prog 27 #[] w fun e w' => ∃ (nA : Option Addr) (nl nc : Nat) (sA : Option Addr) (sl sc : Nat) (rA : Option Addr) (rl rc : Nat) (mA : Option Addr) (ml mc : Nat), e = .returned (.agg #[.int .i64 exP.n, .slice nA nl nc, .slice sA sl sc, .slice rA rl rc, .slice mA ml mc]) ∧ ProgIn w' exP nA nl nc sA sl sc rA rl rc mA ml mc ∧ Below w.heap.size w w' := by
  have hmk : ∀ W : World, (Instr.makeSlice 33 (.int .i64 4) (.int .i64 4)).run Try.prog W = .ok (.slice (some ⟨W.heap.size, 0, none⟩) 4 4) (W.alloc (.cells #[.string ByteArray.empty, .string ByteArray.empty, .string ByteArray.empty, .string ByteArray.empty] 9)) := fun _ => by kernel_rfl
  go_enter Try.func27, Try.ntmps27
  go_wp2
  change bodyPost _ _ _ _ _ (allocs w (exO w.heap.size))
  refine bodyPost_ret (results_cell_row rfl _ _ (w.heap.size + 0) 36 _ (0, 0) _ rfl (allocs_heap (exO w.heap.size) w 0 _ rfl) Try.underlying36 rfl (by kernel_rfl)) rfl ?_
  refine ⟨_, _, _, _, _, _, _, _, _, _, _, _, rfl, ⟨by simp [exP, I64], ?_, SlIs.nil _ _, ?_, SlIs.nil _ _⟩, allocs_bel _ _⟩
  · refine sl_of_cells (allocs_blk (os := exO w.heap.size) 1 rfl) rfl (by omega) (fun i x hx => ?_)
    have hx0 : x = ByteArray.empty := by
      have := List.mem_of_getElem? hx
      simp [exP] at this; exact this
    have hi : i < 4 := (List.getElem?_eq_some_iff.1 hx).1
    subst hx0
    refine ⟨[.string ByteArray.empty], ⟨rfl, by unfold maxLen; decide⟩, fun j u hu => ?_⟩
    match j, hu with
    | 0, hu =>
      simp at hu; subst hu
      match i, hi with
      | 0, _ => rfl
      | 1, _ => rfl
      | 2, _ => rfl
      | 3, _ => rfl
    | j + 1, hu => simp at hu
  · refine sl_of_cells (allocs_blk (os := exO w.heap.size) 12 rfl) rfl (by omega) (fun i x hx => ?_)
    match i, hx with
    | 0, hx => have hx' : exR1 = x := Option.some.inj hx; subst hx'; exact ⟨_, ⟨_, _, _, rfl, ⟨_, _, _, rfl, sl_ints [1] (allocs_blk 2 rfl) rfl (by simp) (by simp [I64])⟩, by simp [exR1, I64], ⟨_, _, _, rfl, sl_ints [-2] (allocs_blk 3 rfl) rfl (by simp) (by simp [I64])⟩, ⟨none, 0, 0, rfl, SlIs.nil _ _⟩⟩, fun j u hu => by
          match j, hu with
        | 0, hu => exact hu
        | 1, hu => exact hu
        | 2, hu => exact hu
        | 3, hu => exact hu
          | 4, hu => exact hu
          | 5, hu => exact hu
          | j + 6, hu => simp at hu⟩
      | 1, hx => have hx' : exR2 = x := Option.some.inj hx; subst hx'; exact ⟨_, ⟨_, _, _, rfl, ⟨_, _, _, rfl, sl_ints [2] (allocs_blk 4 rfl) rfl (by simp) (by simp [I64])⟩, by simp [exR2, I64], ⟨_, _, _, rfl, sl_ints [-1] (allocs_blk 5 rfl) rfl (by simp) (by simp [I64])⟩, ⟨none, 0, 0, rfl, SlIs.nil _ _⟩⟩, fun j u hu => by
          match j, hu with
          | 0, hu => exact hu
          | 1, hu => exact hu
          | 2, hu => exact hu
          | 3, hu => exact hu
          | 4, hu => exact hu
          | 5, hu => exact hu
          | j + 6, hu => simp at hu⟩
      | 2, hx => have hx' : exR3 = x := Option.some.inj hx; subst hx'; exact ⟨_, ⟨_, _, _, rfl, ⟨_, _, _, rfl, sl_ints [3] (allocs_blk 6 rfl) rfl (by simp) (by simp [I64])⟩, by simp [exR3, I64], ⟨_, _, _, rfl, sl_ints [1] (allocs_blk 7 rfl) rfl (by simp) (by simp [I64])⟩, ⟨none, 0, 0, rfl, SlIs.nil _ _⟩⟩, fun j u hu => by
          match j, hu with
          | 0, hu => exact hu
          | 1, hu => exact hu
          | 2, hu => exact hu
          | 3, hu => exact hu
          | 4, hu => exact hu
          | 5, hu => exact hu
          | j + 6, hu => simp at hu⟩
      | 3, hx => have hx' : exR4 = x := Option.some.inj hx; subst hx'; exact ⟨_, ⟨_, _, _, rfl, ⟨_, _, _, rfl, sl_ints [4] (allocs_blk 8 rfl) rfl (by simp) (by simp [I64])⟩, by simp [exR4, I64], ⟨_, _, _, rfl, sl_ints [-2, 3] (allocs_blk 9 rfl) rfl (by simp) (by simp [I64])⟩, ⟨_, _, _, rfl, sl_ints [1, 2] (allocs_blk 10 rfl) rfl (by simp) (by simp [I64])⟩⟩, fun j u hu => by
          match j, hu with
          | 0, hu => exact hu
          | 1, hu => exact hu
          | 2, hu => exact hu
          | 3, hu => exact hu
          | 4, hu => exact hu
          | 5, hu => exact hu
          | j + 6, hu => simp at hu⟩
      | 4, hx => have hx' : exR5 = x := Option.some.inj hx; subst hx'; exact ⟨_, ⟨_, _, _, rfl, ⟨none, 0, 0, rfl, SlIs.nil _ _⟩, by simp [exR5, I64], ⟨_, _, _, rfl, sl_ints [-3, 4] (allocs_blk 11 rfl) rfl (by simp) (by simp [I64])⟩, ⟨none, 0, 0, rfl, SlIs.nil _ _⟩⟩, fun j u hu => by
          match j, hu with
          | 0, hu => exact hu
          | 1, hu => exact hu
          | 2, hu => exact hu
          | 3, hu => exact hu
          | 4, hu => exact hu
          | 5, hu => exact hu
          | j + 6, hu => simp at hu⟩
    | i + 5, hx => simp [exP] at hx
end Go.Proofs.Ytcbkkjcleiibfaa

/- Several texts in one: Exa, Stp, Rd6, Awk, Til. -/
import Derived.Test.YtdmcclfagjgcgaaGreatG2
import Derived.Test.YtdmcclfagjgcgaaGreatG4
import Derived.Test.YtdmcclfagjgcgaaGreatRd8
import Derived.Test.YtdmcclfagjgcgaaGreatRd5
import Derived.Test.YtdmcclfagjgcgaaGreatRdc
import Derived.Test.YtdmcclfagjgcgaaGreatG1
import Derived.StillTail
/- The example of chapter 19 (ostlerlaw19.example); slices out of blocks known whole. -/
namespace Go.Proofs.YtdmcclfagjgcgaaGreat
open Go.RowKit

theorem sl_of_cells {α : Type} {R : Rep α} {W : World} {g l : Nat} {t : TypeId} {cs : Array Value} {xs : List α} (h : Blk W g t cs) (hl : l = xs.length) (hs : l ≤ 17592186044416)
    (hc : ∀ i x, xs[i]? = some x → ∃ c, R.is W c x ∧ ∀ j u, c[j]? = some u → cs[i * R.size + j]? = some u) : SlIs R W (some ⟨g, 0, none⟩) l l xs := by
  refine ⟨hl, Nat.le_refl _, ⟨by unfold maxLen; omega, hs⟩, fun _ => ⟨_, rfl, h.lt, fun i x hx => ?_⟩⟩
  obtain ⟨c, h1, h2⟩ := hc i x hx
  refine ⟨c, h1, fun j u hu => ?_⟩
  rw [add_none, Nat.zero_add, h.cell]
  exact h2 j u hu
theorem sl_ints {W : World} {g l : Nat} {t : TypeId} (xs : List Int) (h : Blk W g t (xs.map (Value.int .i64)).toArray) (hl : l = xs.length) (hs : l ≤ 17592186044416) (hx : ∀ x ∈ xs, I64 x) : SlIs intR W (some ⟨g, 0, none⟩) l l xs :=
  sl_of_cells h hl hs (fun i x hi => ⟨[.int .i64 x], ⟨rfl, hx x (List.mem_of_getElem? hi)⟩, fun j u hu => by
    match j, hu with
    | 0, hu => simp at hu; subst hu; simp [intR, hi]
    | j + 1, hu => simp at hu⟩)
/-- Blocks laid one behind the other. -/
def allocs : World → List Obj → World
  | w, [] => w
  | w, o :: r => allocs (w.alloc o) r
theorem allocs_bel : ∀ (os : List Obj) (w : World), Below w.heap.size w (allocs w os)
  | [], _ => Below.refl _ _
  | o :: r, w => bel_trans (bel_alloc w o) (allocs_bel r (w.alloc o))
theorem allocs_heap : ∀ (os : List Obj) (w : World) (i : Nat) (o : Obj), os[i]? = some o → (allocs w os).heap[w.heap.size + i]? = some o
  | [], _, _, _, h => by simp at h
  | a :: r, w, 0, o, h => by
    simp at h; subst h
    exact ((allocs_bel r (w.alloc a)).block w.heap.size (by simp)).trans (heap_alloc_new w a)
  | a :: r, w, i + 1, o, h => by
    have := allocs_heap r (w.alloc a) i o (by simpa using h)
    rw [World.size_alloc] at this
    rw [show w.heap.size + (i + 1) = w.heap.size + 1 + i by omega]; exact this
theorem allocs_blk {w : World} {os : List Obj} {t : TypeId} {cs : Array Value} (i : Nat) (h : os[i]? = some (.cells cs t)) : Blk (allocs w os) (w.heap.size + i) t cs := allocs_heap os w i _ h
def exR1 : GRule := ⟨false, [1], false, 0, [-2], []⟩
def exR2 : GRule := ⟨false, [2], false, 0, [-1], []⟩
def exR3 : GRule := ⟨true, [3], false, 0, [1], []⟩
def exR4 : GRule := ⟨false, [4], true, 3, [-2, 3], [1, 2]⟩
def exR5 : GRule := ⟨false, [], false, 0, [-3, 4], []⟩
def exP : GProg := ⟨4, [ByteArray.empty, ByteArray.empty, ByteArray.empty, ByteArray.empty], [], [exR1, exR2, exR3, exR4, exR5], []⟩
def exO (n : Nat) : List Obj := [.cells #[.int .i64 4, .slice (some ⟨n + 1, 0, none⟩) 4 4, .slice none 0 0, .slice (some ⟨n + 12, 0, none⟩) 5 5, .slice none 0 0] 27,
  .cells #[.string ByteArray.empty, .string ByteArray.empty, .string ByteArray.empty, .string ByteArray.empty] 9,
  .cells #[.int .i64 (1)] 3,
  .cells #[.int .i64 (-2)] 3,
  .cells #[.int .i64 (2)] 3,
  .cells #[.int .i64 (-1)] 3,
  .cells #[.int .i64 (3)] 3,
  .cells #[.int .i64 (1)] 3,
  .cells #[.int .i64 (4)] 3,
  .cells #[.int .i64 (-2), .int .i64 (3)] 3,
  .cells #[.int .i64 (1), .int .i64 (2)] 3,
  .cells #[.int .i64 (-3), .int .i64 (4)] 3,
  .cells #[.bool false, .slice (some ⟨n + 2, 0, none⟩) 1 1, .bool false, .int .i64 0, .slice (some ⟨n + 3, 0, none⟩) 1 1, .slice none 0 0, .bool false, .slice (some ⟨n + 4, 0, none⟩) 1 1, .bool false, .int .i64 0, .slice (some ⟨n + 5, 0, none⟩) 1 1, .slice none 0 0, .bool true, .slice (some ⟨n + 6, 0, none⟩) 1 1, .bool false, .int .i64 0, .slice (some ⟨n + 7, 0, none⟩) 1 1, .slice none 0 0, .bool false, .slice (some ⟨n + 8, 0, none⟩) 1 1, .bool true, .int .i64 3, .slice (some ⟨n + 9, 0, none⟩) 2 2, .slice (some ⟨n + 10, 0, none⟩) 2 2, .bool false, .slice none 0 0, .bool false, .int .i64 0, .slice (some ⟨n + 11, 0, none⟩) 2 2, .slice none 0 0] 37]
set_option maxRecDepth 100000 in
set_option maxHeartbeats 1000000 in
theorem example_any (w : World) :
    Calls Tryz.prog 42 #[] w fun e w' => ∃ (nA : Option Addr) (nl nc : Nat) (sA : Option Addr) (sl sc : Nat) (rA : Option Addr) (rl rc : Nat) (mA : Option Addr) (ml mc : Nat), e = .returned (.agg #[.int .i64 exP.n, .slice nA nl nc, .slice sA sl sc, .slice rA rl rc, .slice mA ml mc]) ∧ ProgIn w' exP nA nl nc sA sl sc rA rl rc mA ml mc ∧ Below w.heap.size w w' := by
  have hmk : ∀ W : World, (Instr.makeSlice 22 (.int .i64 4) (.int .i64 4)).run Tryz.prog W = .ok (.slice (some ⟨W.heap.size, 0, none⟩) 4 4) (W.alloc (.cells #[.string ByteArray.empty, .string ByteArray.empty, .string ByteArray.empty, .string ByteArray.empty] 9)) := fun _ => by kernel_rfl
  go_enter Tryz.func42, Tryz.ntmps42
  go_wp2
  change bodyPost _ _ _ _ _ (allocs w (exO w.heap.size))
  refine bodyPost_ret (results_cell_row rfl _ _ (w.heap.size + 0) 27 _ (0, 0) _ rfl (allocs_heap (exO w.heap.size) w 0 _ rfl) Tryz.underlying27 rfl (by kernel_rfl)) rfl ?_
  refine ⟨_, _, _, _, _, _, _, _, _, _, _, _, rfl, ⟨by simp [exP, I64], ?_, SlIs.nil _ _, ?_, SlIs.nil _ _⟩, allocs_bel _ _⟩
  · refine sl_of_cells (allocs_blk (os := exO w.heap.size) 1 rfl) rfl (by omega) (fun i x hx => ?_)
    have hx0 : x = ByteArray.empty := by
      have := List.mem_of_getElem? hx
      simp [exP] at this; exact this
    have hi : i < 4 := (List.getElem?_eq_some_iff.1 hx).1
    subst hx0
    refine ⟨[.string ByteArray.empty], ⟨rfl, by unfold maxLen; decide⟩, fun j u hu => ?_⟩
    match j, hu with
    | 0, hu =>
      simp at hu; subst hu
      match i, hi with
      | 0, _ => rfl
      | 1, _ => rfl
      | 2, _ => rfl
      | 3, _ => rfl
    | j + 1, hu => simp at hu
  · refine sl_of_cells (allocs_blk (os := exO w.heap.size) 12 rfl) rfl (by omega) (fun i x hx => ?_)
    match i, hx with
    | 0, hx => have hx' : exR1 = x := Option.some.inj hx; subst hx'; exact ⟨_, ⟨_, _, _, rfl, ⟨_, _, _, rfl, sl_ints [1] (allocs_blk 2 rfl) rfl (by simp) (by simp [I64])⟩, by simp [exR1, I64], ⟨_, _, _, rfl, sl_ints [-2] (allocs_blk 3 rfl) rfl (by simp) (by simp [I64])⟩, ⟨none, 0, 0, rfl, SlIs.nil _ _⟩⟩, fun j u hu => by
          match j, hu with
        | 0, hu => exact hu
        | 1, hu => exact hu
        | 2, hu => exact hu
        | 3, hu => exact hu
          | 4, hu => exact hu
          | 5, hu => exact hu
          | j + 6, hu => simp at hu⟩
      | 1, hx => have hx' : exR2 = x := Option.some.inj hx; subst hx'; exact ⟨_, ⟨_, _, _, rfl, ⟨_, _, _, rfl, sl_ints [2] (allocs_blk 4 rfl) rfl (by simp) (by simp [I64])⟩, by simp [exR2, I64], ⟨_, _, _, rfl, sl_ints [-1] (allocs_blk 5 rfl) rfl (by simp) (by simp [I64])⟩, ⟨none, 0, 0, rfl, SlIs.nil _ _⟩⟩, fun j u hu => by
          match j, hu with
          | 0, hu => exact hu
          | 1, hu => exact hu
          | 2, hu => exact hu
          | 3, hu => exact hu
          | 4, hu => exact hu
          | 5, hu => exact hu
          | j + 6, hu => simp at hu⟩
      | 2, hx => have hx' : exR3 = x := Option.some.inj hx; subst hx'; exact ⟨_, ⟨_, _, _, rfl, ⟨_, _, _, rfl, sl_ints [3] (allocs_blk 6 rfl) rfl (by simp) (by simp [I64])⟩, by simp [exR3, I64], ⟨_, _, _, rfl, sl_ints [1] (allocs_blk 7 rfl) rfl (by simp) (by simp [I64])⟩, ⟨none, 0, 0, rfl, SlIs.nil _ _⟩⟩, fun j u hu => by
          match j, hu with
          | 0, hu => exact hu
          | 1, hu => exact hu
          | 2, hu => exact hu
          | 3, hu => exact hu
          | 4, hu => exact hu
          | 5, hu => exact hu
          | j + 6, hu => simp at hu⟩
      | 3, hx => have hx' : exR4 = x := Option.some.inj hx; subst hx'; exact ⟨_, ⟨_, _, _, rfl, ⟨_, _, _, rfl, sl_ints [4] (allocs_blk 8 rfl) rfl (by simp) (by simp [I64])⟩, by simp [exR4, I64], ⟨_, _, _, rfl, sl_ints [-2, 3] (allocs_blk 9 rfl) rfl (by simp) (by simp [I64])⟩, ⟨_, _, _, rfl, sl_ints [1, 2] (allocs_blk 10 rfl) rfl (by simp) (by simp [I64])⟩⟩, fun j u hu => by
          match j, hu with
          | 0, hu => exact hu
          | 1, hu => exact hu
          | 2, hu => exact hu
          | 3, hu => exact hu
          | 4, hu => exact hu
          | 5, hu => exact hu
          | j + 6, hu => simp at hu⟩
      | 4, hx => have hx' : exR5 = x := Option.some.inj hx; subst hx'; exact ⟨_, ⟨_, _, _, rfl, ⟨none, 0, 0, rfl, SlIs.nil _ _⟩, by simp [exR5, I64], ⟨_, _, _, rfl, sl_ints [-3, 4] (allocs_blk 11 rfl) rfl (by simp) (by simp [I64])⟩, ⟨none, 0, 0, rfl, SlIs.nil _ _⟩⟩, fun j u hu => by
          match j, hu with
          | 0, hu => exact hu
          | 1, hu => exact hu
          | 2, hu => exact hu
          | 3, hu => exact hu
          | 4, hu => exact hu
          | 5, hu => exact hu
          | j + 6, hu => simp at hu⟩
    | i + 5, hx => simp [exP] at hx
end Go.Proofs.YtdmcclfagjgcgaaGreat
/- append of ints at a step of a region that draws; rows without an element. -/
namespace Go.Proofs.YtdmcclfagjgcgaaGreat
open Go.RowKit

/-- append(v, xs...) at ints, in a region that draws its order. -/
theorem step_appS {ops : Array Oper} {o : Oper} {a : Act} {K : Act → World → Prop} {Q : Exit → Act → World → Prop} {E : Prop} {w : World} (hgd : o.guard = none) (s x : Operand)
    (ho : o.op = .call { callee := .builtin .append, args := #[s, x], argTypes := #[23, 23] })
    {base : Nat} {v : Value} {l : Nat} {xs : List Int} {A : Option Addr} {m c : Nat} {ys : List Int} (hs : a.eval s = v) (hx : a.eval x = .slice A m c)
    (h : OwnI w base v l xs) (hy : SlIs intR w A m c ys) (hl : l + m ≤ 17592186044416) (hb : base ≤ w.heap.size)
    (hK : ∀ v' w', OwnI w' base v' (l + m) (xs ++ ys) → w.grownBy w' v.ownBlock → (∀ k, v'.ownBlock = some k → v.ownBlock = some k ∨ w.heap.size ≤ k) → K (a.put o.dst v') w') :
    if Region.wanted o (yielded ops a.tmps) = true then Oper.wp Tryz.prog o a w K Q else E := by
  have hw : Region.wanted o (yielded ops a.tmps) = true := by simp [Region.wanted, hgd]
  rw [if_pos hw]
  obtain ⟨v', w', hrun, h1, h2, h3⟩ := appS h hy hl hb o.type
  unfold Oper.wp execOp
  simp only [ho, resolve, invoke, builtin, Sem.run_bind, Sem.run_pure, Result.andThen_ok, List.map_toArray, List.map_cons, List.map_nil, hs, hx, hrun]
  exact hK _ _ h1 h2 h3
/-- A row that was made without an element. -/
theorem own_empty {w : World} {g base : Nat} (hg : w.heap.size = g) (hb : base ≤ g) : OwnI (w.alloc (.cells #[] 3)) base (.slice (some ⟨g, 0, none⟩) 0 0) 0 [] := by
  subst hg
  have h : OwnI (w.alloc (.cells #[] 3)) w.heap.size (.slice (some ⟨w.heap.size, 0, none⟩) 0 0) 0 [] := ⟨rfl, World.ownsRow_made _ #[] 0 (Nat.le_refl _) (by simp [maxLen]) (by simp)⟩
  exact h.mono hb
/-- One goal behind a region whose orders all end alike. -/
theorem wp_cut {P : Program} {c : Code} {Q : Exit → Act → World → Prop} {a : Act} {w : World} (A : Act) (W : World) (h : c.wp P (fun e a' w' => e = Exit.normal ∧ a' = A ∧ w' = W) a w) (k : Q Exit.normal A W) : c.wp P Q a w :=
  Code.wp_mono (fun _ _ _ ⟨h1, h2, h3⟩ => by rw [h1, h2, h3]; exact k) h
/-- One goal behind a region whose orders all end in a new row (its block, its capacity, the world). -/
theorem wp_cut3 {P : Program} {c : Code} {Q : Exit → Act → World → Prop} {a : Act} {w : World} (F : Nat → Nat → World → Prop) (A : Nat → Nat → World → Act) (V : Nat → Nat → World → World)
    (h : c.wp P (fun e a' w' => e = Exit.normal ∧ ∃ g k x, F g k x ∧ a' = A g k x ∧ w' = V g k x) a w) (k : ∀ g k x, F g k x → Q Exit.normal (A g k x) (V g k x)) : c.wp P Q a w :=
  Code.wp_mono (fun _ _ _ ⟨h1, g, c, x, hF, h2, h3⟩ => by rw [h1, h2, h3]; exact k g c x hF) h
/-- One goal behind a region whose orders all end in a slice that a callee made. -/
theorem wp_cut5 {P : Program} {c : Code} {Q : Exit → Act → World → Prop} {a : Act} {w : World} (F : Option Addr → Nat → Nat → World → Prop) (A : Option Addr → Nat → Nat → World → Act) (V : Option Addr → Nat → Nat → World → World)
    (h : c.wp P (fun e a' w' => e = Exit.normal ∧ ∃ g l k x, F g l k x ∧ a' = A g l k x ∧ w' = V g l k x) a w) (k : ∀ g l k x, F g l k x → Q Exit.normal (A g l k x) (V g l k x)) : c.wp P Q a w :=
  Code.wp_mono (fun _ _ _ ⟨h1, g, l, c, x, hF, h2, h3⟩ => by rw [h1, h2, h3]; exact k g l c x hF) h
end Go.Proofs.YtdmcclfagjgcgaaGreat
/- Contracts: reduct.Least, Body. -/
namespace Go.Proofs.YtdmcclfagjgcgaaGreat
open Go.RowKit

set_option maxRecDepth 100000 in
set_option maxHeartbeats 1000000 in
theorem least_not (rA : Option Addr) (rl rc : Nat) (rs : List GRule) (n : Int) (w : World) (h : SlIs ruleR w rA rl rc rs) (hd : defB n rs = false) :
    Calls Tryz.prog 45 #[.int .i64 n, .slice rA rl rc] w fun e w' => e = .returned (.tuple #[.slice none 0 0, .int .i64 2]) ∧ Below w.heap.size w w' := by
  have H := Lib.hid h; clear h
  have HD := Lib.hid hd; clear hd
  go_enter Tryz.func45, Tryz.ntmps45
  go_wp2_with fail
  go_fit (rounds_not rA rl rc rs n w H.out HD.out); rintro e w1 ⟨rfl, hb1⟩
  have HB1 := Lib.hid hb1; clear hb1
  go_wp2_with fail
  go_ret2
  exact ⟨by rfl, HB1.out⟩

set_option maxRecDepth 100000 in
set_option maxHeartbeats 1000000 in
theorem least_any (rA : Option Addr) (rl rc : Nat) (rs : List GRule) (N : Nat) (w : World) (h : SlIs ruleR w rA rl rc rs) (hd : defB N rs = true) :
    Calls Tryz.prog 45 #[.int .i64 N, .slice rA rl rc] w fun e w' => ∃ A l c, e = .returned (.tuple #[.slice A l c, .int .i64 0]) ∧ SlIs intR w' A l c (leastL rs N) ∧ Below w.heap.size w w' := by
  have hN : N ≤ 4000 := by
    unfold defB at hd; simp only [Bool.and_eq_true, decide_eq_true_eq] at hd; omega
  have H := Lib.hid h; clear h
  have HD := Lib.hid hd; clear hd
  go_enter Tryz.func45, Tryz.ntmps45
  go_wp2_with fail
  go_fit (rounds_any rA rl rc rs N w H.out HD.out); rintro e w1 ⟨oA, ol, oc, rfl, hsl, hb1⟩
  have holc := hsl.cap
  have hom := hsl.max
  have hlen : ol = N := by rw [hsl.len]; simp [roundsL]
  subst hlen
  have HSL := Lib.hid hsl; clear hsl
  have HB1 := Lib.hid hb1; clear hb1
  go_wp2_with fail
  go_loopw [8, 22] (fun v t wr => ∃ (k lv : Nat), k ≤ ol ∧ t = .int .i64 (k : Int) ∧ OwnI wr w1.heap.size v lv (((List.range k).filter (fun (i : Nat) => decide (0 < (stageF rs ol ol).1 i))).map (fun (i : Nat) => (i : Int) + 1)) ∧ Below w1.heap.size w1 wr) (fun _ t _ => ol - (intOf t).toNat)
  case atStart => exact ⟨0, 0, Nat.zero_le _, rfl, OwnI.nil _ _, Below.refl _ _⟩
  case round =>
    obtain ⟨k, lv, hk, rfl, hown, hbw⟩ := hrel
    have hlv : lv ≤ 4000 := by
      rw [hown.len]
      have := List.length_filter_le (fun (i : Nat) => decide (0 < (stageF rs ol ol).1 i)) (List.range k)
      simp at this ⊢; omega
    have H1 := Lib.hid (HSL.out.ext hbw)
    have hzz := hbw.size
    by_cases hlt : k < ol
    · have hx : (roundsL rs ol)[k]? = some ((stageF rs ol ol).1 k) := by unfold roundsL; simp [hlt]
      generalize hz : (stageF rs ol ol).1 k = z at *
      have hst : ((List.range (k + 1)).filter (fun (i : Nat) => decide (0 < (stageF rs ol ol).1 i))).map (fun (i : Nat) => (i : Int) + 1) = if 0 < z then ((List.range k).filter (fun (i : Nat) => decide (0 < (stageF rs ol ol).1 i))).map (fun (i : Nat) => (i : Int) + 1) ++ [(k : Int) + 1] else ((List.range k).filter (fun (i : Nat) => decide (0 < (stageF rs ol ol).1 i))).map (fun (i : Nat) => (i : Int) + 1) := by
        rw [List.range_succ, List.filter_append, List.map_append]
        by_cases h0 : 0 < z
        · rw [if_pos h0]; simp [hz, h0]
        · rw [if_neg h0]; simp [hz, h0]
      obtain ⟨b, off, rfl, _, hcell, _⟩ := H1.out.int hx
      by_cases h0 : 0 < z
      · obtain ⟨v', w3, hrun, hown3, hg3, hat3⟩ := app1 hown ((k : Int) + 1) (by omega) hzz 23
        have hb3 := bel_grown hbw hg3 hzz (fun q hq => (hown.2.lt q hq).1)
        have HX := Lib.hid hx; clear hx
        have HZ := Lib.hid hz; clear hz
        have HST := Lib.hid hst; clear hst
        have HOWN := Lib.hid hown; clear hown
        have HBW := Lib.hid hbw; clear hbw
        have HRUN := Lib.hid hrun; clear hrun
        have HOWN3 := Lib.hid hown3; clear hown3
        have HG3 := Lib.hid hg3; clear hg3
        have HAT3 := Lib.hid hat3; clear hat3
        have HB3 := Lib.hid hb3; clear hb3
        go_wp2_with (at_builtin; refine wpList_append_run rfl _ _ _ rfl _ _ rfl rfl _ _ HRUN.out ?_)
        go_roundw
        case rel => exact ⟨k + 1, lv + 1, by omega, by go_num, by rw [HST.out, if_pos h0]; exact HOWN3.out, HB3.out⟩
        case measure => simp [intOf]; omega
      · have HX := Lib.hid hx; clear hx
        have HZ := Lib.hid hz; clear hz
        have HST := Lib.hid hst; clear hst
        have HOWN := Lib.hid hown; clear hown
        have HBW := Lib.hid hbw; clear hbw
        go_wp2_with fail
        go_roundw
        case rel => exact ⟨k + 1, lv, by omega, by go_num, by rw [HST.out, if_neg h0]; exact HOWN.out, HBW.out⟩
        case measure => simp [intOf]; omega
    · have hkk : k = ol := by omega
      obtain ⟨vA, vc, hv, hsv⟩ := hown.sl (by omega) (fun x hx => by
        obtain ⟨i, hi, rfl⟩ := List.mem_map.1 hx
        have := List.mem_range.1 (List.mem_filter.1 hi).1
        unfold I64; omega)
      have HOWN := Lib.hid hown; clear hown
      have HBW := Lib.hid hbw; clear hbw
      have HKK := Lib.hid hkk; clear hkk
      have HV := Lib.hid hv; clear hv
      have HSV := Lib.hid hsv; clear hsv
      go_wp2_with fail
      go_ret2
      exact ⟨vA, lv, vc, by rw [← HV.out]; rfl, by have h1 := HSV.out; rw [HKK.out] at h1; exact h1, bel_trans HB1.out HBW.out⟩
end Go.Proofs.YtdmcclfagjgcgaaGreat
/- The examples of chapter 19 stand (ostlerlaw19.awake). -/
namespace Go.Proofs.YtdmcclfagjgcgaaGreat
open Go.RowKit

def exA : List GRule := [⟨false, [1], false, 0, [], []⟩, ⟨false, [3], false, 0, [1], []⟩, ⟨false, [4], true, 2, [3], [2]⟩]
def exB : List GRule := [⟨false, [2], false, 0, [], []⟩, ⟨false, [4], true, 3, [3], [2]⟩, ⟨false, [], false, 0, [4], []⟩]
theorem ex_c1 : checkE exP [1, 3, 4] = 0 := by kernel_rfl
theorem ex_c2 : checkE exP [2] = 0 := by kernel_rfl
theorem ex_c3 : checkE exP [] = 0 := by kernel_rfl
theorem ex_c4 : checkE exP [2, 2] = 2 := by kernel_rfl
theorem ex_m : modelB exP [1, 3, 4] = true := by kernel_rfl
theorem ex_b : brokenI exP [] = 0 := by kernel_rfl
theorem ex_r1 : reductL exP.rules [1, 3, 4] = exA := by kernel_rfl
theorem ex_r2 : reductL exP.rules [2] = exB := by kernel_rfl
theorem ex_d : defB (4 : Nat) exA = true := by kernel_rfl
theorem ex_l : leastL exA 4 = [1, 3, 4] := by kernel_rfl
theorem ex_o : roundsL exA 4 = [1, 0, 2, 3] := by kernel_rfl
def exAO (n : Nat) : List Obj := [.cells #[.int .i64 (1)] 3,
  .cells #[.int .i64 (3)] 3,
  .cells #[.int .i64 (1)] 3,
  .cells #[.int .i64 (4)] 3,
  .cells #[.int .i64 (3)] 3,
  .cells #[.int .i64 (2)] 3,
  .cells #[.bool false, .slice (some ⟨n + 0, 0, none⟩) 1 1, .bool false, .int .i64 0, .slice none 0 0, .slice none 0 0, .bool false, .slice (some ⟨n + 1, 0, none⟩) 1 1, .bool false, .int .i64 0, .slice (some ⟨n + 2, 0, none⟩) 1 1, .slice none 0 0, .bool false, .slice (some ⟨n + 3, 0, none⟩) 1 1, .bool true, .int .i64 2, .slice (some ⟨n + 4, 0, none⟩) 1 1, .slice (some ⟨n + 5, 0, none⟩) 1 1] 37]
theorem exA_sl (w : World) : SlIs ruleR (allocs w (exAO w.heap.size)) (some ⟨w.heap.size + 1 + 1 + 1 + 1 + 1 + 1, 0, none⟩) 3 3 exA := by
  refine sl_of_cells (allocs_blk (os := exAO w.heap.size) 6 rfl) rfl (by omega) (fun i x hx => ?_)
  match i, hx with
  | 0, hx => have hx' : _ = x := Option.some.inj hx; subst hx'; exact ⟨_, ⟨_, _, _, rfl, ⟨_, _, _, rfl, sl_ints [1] (allocs_blk 0 rfl) rfl (by simp) (by simp [I64])⟩, by simp [I64], ⟨none, 0, 0, rfl, SlIs.nil _ _⟩, ⟨none, 0, 0, rfl, SlIs.nil _ _⟩⟩, fun j u hu => by
      match j, hu with
      | 0, hu => exact hu
      | 1, hu => exact hu
      | 2, hu => exact hu
      | 3, hu => exact hu
      | 4, hu => exact hu
      | 5, hu => exact hu
      | j + 6, hu => simp at hu⟩
  | 1, hx => have hx' : _ = x := Option.some.inj hx; subst hx'; exact ⟨_, ⟨_, _, _, rfl, ⟨_, _, _, rfl, sl_ints [3] (allocs_blk 1 rfl) rfl (by simp) (by simp [I64])⟩, by simp [I64], ⟨_, _, _, rfl, sl_ints [1] (allocs_blk 2 rfl) rfl (by simp) (by simp [I64])⟩, ⟨none, 0, 0, rfl, SlIs.nil _ _⟩⟩, fun j u hu => by
      match j, hu with
      | 0, hu => exact hu
      | 1, hu => exact hu
      | 2, hu => exact hu
      | 3, hu => exact hu
      | 4, hu => exact hu
      | 5, hu => exact hu
      | j + 6, hu => simp at hu⟩
  | 2, hx => have hx' : _ = x := Option.some.inj hx; subst hx'; exact ⟨_, ⟨_, _, _, rfl, ⟨_, _, _, rfl, sl_ints [4] (allocs_blk 3 rfl) rfl (by simp) (by simp [I64])⟩, by simp [I64], ⟨_, _, _, rfl, sl_ints [3] (allocs_blk 4 rfl) rfl (by simp) (by simp [I64])⟩, ⟨_, _, _, rfl, sl_ints [2] (allocs_blk 5 rfl) rfl (by simp) (by simp [I64])⟩⟩, fun j u hu => by
      match j, hu with
      | 0, hu => exact hu
      | 1, hu => exact hu
      | 2, hu => exact hu
      | 3, hu => exact hu
      | 4, hu => exact hu
      | 5, hu => exact hu
      | j + 6, hu => simp at hu⟩
  | i + 3, hx => simp [exA] at hx
def exBO (n : Nat) : List Obj := [.cells #[.int .i64 (2)] 3,
  .cells #[.int .i64 (4)] 3,
  .cells #[.int .i64 (3)] 3,
  .cells #[.int .i64 (2)] 3,
  .cells #[.int .i64 (4)] 3,
  .cells #[.bool false, .slice (some ⟨n + 0, 0, none⟩) 1 1, .bool false, .int .i64 0, .slice none 0 0, .slice none 0 0, .bool false, .slice (some ⟨n + 1, 0, none⟩) 1 1, .bool true, .int .i64 3, .slice (some ⟨n + 2, 0, none⟩) 1 1, .slice (some ⟨n + 3, 0, none⟩) 1 1, .bool false, .slice none 0 0, .bool false, .int .i64 0, .slice (some ⟨n + 4, 0, none⟩) 1 1, .slice none 0 0] 37]
theorem exB_sl (w : World) : SlIs ruleR (allocs w (exBO w.heap.size)) (some ⟨w.heap.size + 1 + 1 + 1 + 1 + 1, 0, none⟩) 3 3 exB := by
  refine sl_of_cells (allocs_blk (os := exBO w.heap.size) 5 rfl) rfl (by omega) (fun i x hx => ?_)
  match i, hx with
  | 0, hx => have hx' : _ = x := Option.some.inj hx; subst hx'; exact ⟨_, ⟨_, _, _, rfl, ⟨_, _, _, rfl, sl_ints [2] (allocs_blk 0 rfl) rfl (by simp) (by simp [I64])⟩, by simp [I64], ⟨none, 0, 0, rfl, SlIs.nil _ _⟩, ⟨none, 0, 0, rfl, SlIs.nil _ _⟩⟩, fun j u hu => by
      match j, hu with
      | 0, hu => exact hu
      | 1, hu => exact hu
      | 2, hu => exact hu
      | 3, hu => exact hu
      | 4, hu => exact hu
      | 5, hu => exact hu
      | j + 6, hu => simp at hu⟩
  | 1, hx => have hx' : _ = x := Option.some.inj hx; subst hx'; exact ⟨_, ⟨_, _, _, rfl, ⟨_, _, _, rfl, sl_ints [4] (allocs_blk 1 rfl) rfl (by simp) (by simp [I64])⟩, by simp [I64], ⟨_, _, _, rfl, sl_ints [3] (allocs_blk 2 rfl) rfl (by simp) (by simp [I64])⟩, ⟨_, _, _, rfl, sl_ints [2] (allocs_blk 3 rfl) rfl (by simp) (by simp [I64])⟩⟩, fun j u hu => by
      match j, hu with
      | 0, hu => exact hu
      | 1, hu => exact hu
      | 2, hu => exact hu
      | 3, hu => exact hu
      | 4, hu => exact hu
      | 5, hu => exact hu
      | j + 6, hu => simp at hu⟩
  | 2, hx => have hx' : _ = x := Option.some.inj hx; subst hx'; exact ⟨_, ⟨_, _, _, rfl, ⟨none, 0, 0, rfl, SlIs.nil _ _⟩, by simp [I64], ⟨_, _, _, rfl, sl_ints [4] (allocs_blk 4 rfl) rfl (by simp) (by simp [I64])⟩, ⟨none, 0, 0, rfl, SlIs.nil _ _⟩⟩, fun j u hu => by
      match j, hu with
      | 0, hu => exact hu
      | 1, hu => exact hu
      | 2, hu => exact hu
      | 3, hu => exact hu
      | 4, hu => exact hu
      | 5, hu => exact hu
      | j + 6, hu => simp at hu⟩
  | i + 3, hx => simp [exB] at hx
theorem aw_models1 (nA : Option Addr) (nl nc : Nat) (sA : Option Addr) (sl sc : Nat) (rA : Option Addr) (rl rc : Nat) (mA : Option Addr) (ml mc : Nat) (xA : Option Addr) (xl xc : Nat) (w : World) (hp : ProgIn w exP nA nl nc sA sl sc rA rl rc mA ml mc) (hm : SlIs intR w xA xl xc [1, 3, 4]) : Calls Tryz.prog 43 #[.agg #[.int .i64 exP.n, .slice nA nl nc, .slice sA sl sc, .slice rA rl rc, .slice mA ml mc], .slice xA xl xc] w fun e w' => e = .returned (.tuple #[.bool true, .int .i64 0]) ∧ Below w.heap.size w w' :=
  (models_any exP _ _ _ _ _ _ _ _ _ _ _ _ _ _ _ [1, 3, 4] w hp hm).mono fun e w' ⟨h1, h2⟩ => ⟨by rw [h1, ex_c1, ex_m]; rfl, h2⟩
theorem aw_models2 (nA : Option Addr) (nl nc : Nat) (sA : Option Addr) (sl sc : Nat) (rA : Option Addr) (rl rc : Nat) (mA : Option Addr) (ml mc : Nat) (xA : Option Addr) (xl xc : Nat) (w : World) (hp : ProgIn w exP nA nl nc sA sl sc rA rl rc mA ml mc) (hm : SlIs intR w xA xl xc [2, 2]) : Calls Tryz.prog 43 #[.agg #[.int .i64 exP.n, .slice nA nl nc, .slice sA sl sc, .slice rA rl rc, .slice mA ml mc], .slice xA xl xc] w fun e w' => e = .returned (.tuple #[.bool false, .int .i64 2]) ∧ Below w.heap.size w w' :=
  (models_any exP _ _ _ _ _ _ _ _ _ _ _ _ _ _ _ [2, 2] w hp hm).mono fun e w' ⟨h1, h2⟩ => ⟨by rw [h1, ex_c4]; rfl, h2⟩
theorem aw_broken (nA : Option Addr) (nl nc : Nat) (sA : Option Addr) (sl sc : Nat) (rA : Option Addr) (rl rc : Nat) (mA : Option Addr) (ml mc : Nat) (xA : Option Addr) (xl xc : Nat) (w : World) (hp : ProgIn w exP nA nl nc sA sl sc rA rl rc mA ml mc) (hm : SlIs intR w xA xl xc []) : Calls Tryz.prog 13 #[.agg #[.int .i64 exP.n, .slice nA nl nc, .slice sA sl sc, .slice rA rl rc, .slice mA ml mc], .slice xA xl xc] w fun e w' => e = .returned (.tuple #[.int .i64 0, .int .i64 0]) ∧ Below w.heap.size w w' :=
  (broken_any exP _ _ _ _ _ _ _ _ _ _ _ _ _ _ _ [] w hp hm).mono fun e w' ⟨h1, h2⟩ => ⟨by rw [h1, ex_c3, ex_b]; rfl, h2⟩
theorem slx (w : World) (xs : List Int) (n g : Nat) (hg : w.heap.size = g) (hn : n = xs.length) (hx : ∀ x ∈ xs, I64 x) (hs : n ≤ 17592186044416) : SlIs intR (w.alloc (.cells (xs.map (Value.int .i64)).toArray 3)) (some ⟨g, 0, none⟩) n n xs :=
  sl_ints xs (blk_new hg _ _) hn hs hx
theorem pcells {W : World} {b : Nat} {v0 v1 v2 v3 v4 : Value} (h : Blk W b 27 #[v0, v1, v2, v3, v4]) : W.cell? ⟨b, 0, none⟩ = some v0 ∧ W.cell? ⟨b, 1, none⟩ = some v1 ∧ W.cell? ⟨b, 2, none⟩ = some v2 ∧ W.cell? ⟨b, 3, none⟩ = some v3 ∧ W.cell? ⟨b, 4, none⟩ = some v4 ∧ b < W.heap.size := ⟨h.cell 0, h.cell 1, h.cell 2, h.cell 3, h.cell 4, h.lt⟩

set_option maxRecDepth 100000 in
set_option maxHeartbeats 4000000 in
theorem awake_any (w : World) : Calls Tryz.prog 11 #[] w fun e w' => e = .returned (.bool true) ∧ Below w.heap.size w w' := by
  go_enter Tryz.func11, Tryz.ntmps11
  go_wp2_with fail
  go_fit (example_any _); rintro e w1 ⟨nA, nl, nc, sA, sl, sc, rA, rl, rc, mA, ml, mc, rfl, hp, hb1⟩
  have HP := Lib.hid hp; clear hp
  have HB1 := Lib.hid hb1; clear hb1
  go_wp2_with fail
  go_fit (aw_models1 _ _ _ _ _ _ _ _ _ _ _ _ _ _ _ _ (HP.out.ext (bel_alloc2 _ _ _)) (slx _ [1, 3, 4] 3 _ (by simp) rfl (by simp [I64]) (by omega))); rintro e w2 ⟨rfl, hb2⟩
  have hx2 := ((Blk.new w1 27 #[.int .i64 exP.n, .slice nA nl nc, .slice sA sl sc, .slice rA rl rc, .slice mA ml mc]).alloc _).bel hb2
  obtain ⟨p0, p1, p2, p3, p4, p5⟩ := pcells hx2
  have hp2 := HP.out.ext (bel_trans (bel_alloc2 _ _ _) hb2)
  have HB2 := Lib.hid (bel_trans HB1.out (bel_trans (bel_alloc2 _ _ _) hb2))
  clear hb2
  have HX2 := Lib.hid hx2; clear hx2
  have HP2 := Lib.hid hp2; clear hp2
  go_wp2_with fail
  go_fit (reduct_any exP _ _ _ _ _ _ _ _ _ _ _ _ _ _ _ [1, 3, 4] _ (HP2.out.ext (bel_alloc _ _)) (slx _ [1, 3, 4] 3 _ (by simp) rfl (by simp [I64]) (by omega)) ex_c1); rintro e w3 ⟨aA, al, ac, rfl, ha, hb3⟩
  have hx3 := (HX2.out.alloc _).bel hb3
  clear p0 p1 p2 p3 p4 p5
  obtain ⟨p0, p1, p2, p3, p4, p5⟩ := pcells hx3
  have hp3 := HP2.out.ext (bel_trans (bel_alloc _ _) hb3)
  have HB3 := Lib.hid (bel_trans HB2.out (bel_trans (bel_alloc _ _) hb3))
  clear hb3
  rw [ex_r1] at ha
  have HX3 := Lib.hid hx3; clear hx3
  have HP3 := Lib.hid hp3; clear hp3
  have HA := Lib.hid ha; clear ha
  go_wp2_with fail
  go_fit (least_any aA al ac exA 4 _ HA.out ex_d); rintro e w4 ⟨lA, ll, lc, rfl, hl, hb4⟩
  rw [ex_l] at hl
  have ha4 := HA.out.ext hb4
  have hx4 := HX3.out.bel hb4
  have hp4 := HP3.out.ext hb4
  have HB4 := Lib.hid (bel_trans HB3.out hb4)
  clear hb4 p0 p1 p2 p3 p4 p5
  have HL := Lib.hid hl; clear hl
  have HA4 := Lib.hid ha4; clear ha4
  have HX4 := Lib.hid hx4; clear hx4
  have HP4 := Lib.hid hp4; clear hp4
  go_wp2_with fail
  go_fit (rounds_any aA al ac exA 4 _ HA4.out ex_d); rintro e w5 ⟨oA, ol, oc, rfl, ho, hb5⟩
  rw [ex_o] at ho
  have ha5 := HA4.out.ext hb5
  have hl5 := HL.out.ext hb5
  have hx5 := HX4.out.bel hb5
  obtain ⟨p0, p1, p2, p3, p4, p5⟩ := pcells hx5
  have hp5 := HP4.out.ext hb5
  have HB5 := Lib.hid (bel_trans HB4.out hb5)
  clear hb5
  have HO := Lib.hid ho; clear ho
  have HL5 := Lib.hid hl5; clear hl5
  have HA5 := Lib.hid ha5; clear ha5
  have HX5 := Lib.hid hx5; clear hx5
  have HP5 := Lib.hid hp5; clear hp5
  go_wp2_with fail
  go_fit (reduct_any exP _ _ _ _ _ _ _ _ _ _ _ _ _ _ _ [2] _ (HP5.out.ext (bel_alloc _ _)) (slx _ [2] 1 _ (by simp) rfl (by simp [I64]) (by omega)) ex_c2); rintro e w6 ⟨bA, bl, bc, rfl, hbb, hb6⟩
  rw [ex_r2] at hbb
  have hb6' := bel_trans (bel_alloc _ _) hb6
  have ha6 := HA5.out.ext hb6'
  have hl6 := HL5.out.ext hb6'
  have ho6 := HO.out.ext hb6'
  have hx6 := HX5.out.bel hb6'
  clear p0 p1 p2 p3 p4 p5
  obtain ⟨p0, p1, p2, p3, p4, p5⟩ := pcells hx6
  have hp6 := HP5.out.ext hb6'
  have HB6 := Lib.hid (bel_trans HB5.out hb6')
  clear hb6 hb6'
  have HBB := Lib.hid hbb; clear hbb
  have HO6 := Lib.hid ho6; clear ho6
  have HL6 := Lib.hid hl6; clear hl6
  have HA6 := Lib.hid ha6; clear ha6
  have HX6 := Lib.hid hx6; clear hx6
  have HP6 := Lib.hid hp6; clear hp6
  go_wp2_with fail
  go_fit (aw_broken _ _ _ _ _ _ _ _ _ _ _ _ none 0 0 _ HP6.out (SlIs.nil _ _)); rintro e w7 ⟨rfl, hb7⟩
  have ha7 := HA6.out.ext hb7
  have hl7 := HL6.out.ext hb7
  have ho7 := HO6.out.ext hb7
  have hbb7 := HBB.out.ext hb7
  have hx7 := HX6.out.bel hb7
  clear p0 p1 p2 p3 p4 p5
  obtain ⟨p0, p1, p2, p3, p4, p5⟩ := pcells hx7
  have hp7 := HP6.out.ext hb7
  have HB7 := Lib.hid (bel_trans HB6.out hb7)
  clear hb7
  have HBB7 := Lib.hid hbb7; clear hbb7
  have HO7 := Lib.hid ho7; clear ho7
  have HL7 := Lib.hid hl7; clear hl7
  have HA7 := Lib.hid ha7; clear ha7
  have HX7 := Lib.hid hx7; clear hx7
  have HP7 := Lib.hid hp7; clear hp7
  go_wp2_with fail
  go_fit (aw_models2 _ _ _ _ _ _ _ _ _ _ _ _ _ _ _ _ (HP7.out.ext (bel_alloc _ _)) (slx _ [2, 2] 2 _ (by simp) rfl (by simp [I64]) (by omega))); rintro e w8 ⟨rfl, hb8⟩
  have hb8' := bel_trans (bel_alloc _ _) hb8
  have ha8 := HA7.out.ext hb8'
  have hl8 := HL7.out.ext hb8'
  have ho8 := HO7.out.ext hb8'
  have hbb8 := HBB7.out.ext hb8'
  clear p0 p1 p2 p3 p4 p5
  have HB8 := Lib.hid (bel_trans HB7.out hb8')
  clear hb8 hb8'
  have HBB8 := Lib.hid hbb8; clear hbb8
  have HO8 := Lib.hid ho8; clear ho8
  have HL8 := Lib.hid hl8; clear hl8
  have HA8 := Lib.hid ha8; clear ha8
  go_wp2_with fail
  go_fit (lawInts_any _ _ _ _ _ _ [1, 3, 4] [1, 3, 4] _ (HL8.out.ext (bel_alloc _ _)) (slx _ [1, 3, 4] 3 _ (by simp) rfl (by simp [I64]) (by omega))); rintro e w9 ⟨rfl, hb9⟩
  rw [show decide (([1, 3, 4] : List Int) = [1, 3, 4]) = true from rfl]
  have hb9' := bel_trans (bel_alloc _ _) hb9
  have ha9 := HA8.out.ext hb9'
  have ho9 := HO8.out.ext hb9'
  have hbb9 := HBB8.out.ext hb9'
  have HB9 := Lib.hid (bel_trans HB8.out hb9')
  clear hb9 hb9'
  have HBB9 := Lib.hid hbb9; clear hbb9
  have HO9 := Lib.hid ho9; clear ho9
  have HA9 := Lib.hid ha9; clear ha9
  go_wp2_with fail
  go_fit (lawInts_any _ _ _ _ _ _ [1, 0, 2, 3] [1, 0, 2, 3] _ (HO9.out.ext (bel_alloc _ _)) (slx _ [1, 0, 2, 3] 4 _ (by simp) rfl (by simp [I64]) (by omega))); rintro e w10 ⟨rfl, hb10⟩
  rw [show decide (([1, 0, 2, 3] : List Int) = [1, 0, 2, 3]) = true from rfl]
  have hb10' := bel_trans (bel_alloc _ _) hb10
  have ha10 := HA9.out.ext hb10'
  have hbb10 := HBB9.out.ext hb10'
  have HB10 := Lib.hid (bel_trans HB9.out hb10')
  clear hb10 hb10'
  have HBB10 := Lib.hid hbb10; clear hbb10
  have HA10 := Lib.hid ha10; clear ha10
  go_wp2_with fail
  change Calls _ _ _ (allocs w10 (exAO w10.heap.size)) _
  go_fit (rules_any _ _ _ _ _ _ exA exA _ (HA10.out.ext (allocs_bel _ _)) (exA_sl w10)); rintro e w11 ⟨rfl, hb11⟩
  rw [show decide (exA = exA) = true from by simp]
  have hb11' := bel_trans (allocs_bel _ _) hb11
  have hbb11 := HBB10.out.ext hb11'
  have HB11 := Lib.hid (bel_trans HB10.out hb11')
  clear hb11 hb11'
  have HBB11 := Lib.hid hbb11; clear hbb11
  go_wp2_with fail
  change Calls _ _ _ (allocs w11 (exBO w11.heap.size)) _
  go_fit (rules_any _ _ _ _ _ _ exB exB _ (HBB11.out.ext (allocs_bel _ _)) (exB_sl w11)); rintro e w12 ⟨rfl, hb12⟩
  rw [show decide (exB = exB) = true from by simp]
  have HB12 := Lib.hid (bel_trans HB11.out (bel_trans (allocs_bel _ _) hb12))
  clear hb12
  go_wp2_with fail
  go_ret
  exact ⟨rfl, HB12.out⟩
end Go.Proofs.YtdmcclfagjgcgaaGreat
/- A region that draws its order and ends in operations that wait for all others: the quiet ones in the order of the text, then the tail. -/
namespace Go.Proofs.YtdmcclfagjgcgaaGreat
open Go.RowKit

theorem still_of_quiet {P : Program} {ops : Array Oper} {X : World} {Q : Act → Prop} : ∀ (l : List Oper) (a : Act), wpQuiet P ops (fun w' => w' = X) Q l a → wpStill P ops X Q l a
  | [], _, h => h
  | o :: r, a, h => by
    unfold wpQuiet at h
    unfold wpStill
    split
    · rename_i hw
      rw [if_pos hw] at h
      obtain ⟨v, h1, h2⟩ := h
      have h3 := h1 X rfl
      have h4 := still_of_quiet r _ h2
      unfold Oper.quietAt at h3
      unfold Oper.still
      generalize (execOp a.eval o).run P X = q at *
      match q, h3 with
      | .ok (.value u) w', h3 => obtain ⟨rfl, rfl⟩ := h3; exact ⟨rfl, h4⟩
      | .ok .skip w', h3 => obtain ⟨rfl, rfl⟩ := h3; exact ⟨rfl, h4⟩
      | .ok (.enter f args) w', h3 => obtain ⟨rfl, h5⟩ := h3; exact ⟨rfl, v, h5, h4⟩
    · rename_i hw
      rw [if_neg hw] at h
      exact still_of_quiet r _ h
theorem wp_region_tail {P : Program} {id : Nat} {Q : Exit → Act → World → Prop} {a : Act} {w : World} {l : List Oper} (n : Nat) (fs : List (Addr × Value)) (hm : P.follows .mixedOrders = true) (hB : Region.lexTailB .any l.toArray n = true)
    (hf : ∀ f ∈ fs, w.cell? f.1 = some f.2)
    (h : ∀ X, (∀ f ∈ fs, X.cell? f.1 = some f.2) → X = w.drew → wpQuiet P l.toArray (fun w' => w' = X) (fun a' => wpList P l.toArray Q (l.drop n) a' X) (l.take n) a) : (Code.region id l.toArray true).wp P Q a w :=
  wp_region_still_tail n hm hB (still_of_quiet _ _ (h w.drew hf rfl))
end Go.Proofs.YtdmcclfagjgcgaaGreat

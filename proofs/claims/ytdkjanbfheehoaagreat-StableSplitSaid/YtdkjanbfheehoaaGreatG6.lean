/- Several texts in one: Exa, Stp, Rd6, Awk, Til. -/
import Derived.Test.YtdkjanbfheehoaaGreatG2
import Derived.Test.YtdkjanbfheehoaaGreatG4
import Derived.Test.YtdkjanbfheehoaaGreatRd8
import Derived.Test.YtdkjanbfheehoaaGreatRd5
import Derived.Test.YtdkjanbfheehoaaGreatRdc
import Derived.Test.YtdkjanbfheehoaaGreatG1
import Derived.StillTail
/- The example of chapter 19 (ostlerlaw19.example); slices out of blocks known whole. -/
namespace Go.Proofs.YtdkjanbfheehoaaGreat
open Go.RowKit

theorem sl_of_cells {α : Type} {R : Rep α} {W : World} {g l : Nat} {t : TypeId} {cs : Array Value} {xs : List α} (h : Blk W g t cs) (hl : l = xs.length) (hs : l ≤ 17592186044416)
    (hc : ∀ i x, xs[i]? = some x → ∃ c, R.is W c x ∧ ∀ j u, c[j]? = some u → cs[i * R.size + j]? = some u) : SlIs R W (some ⟨g, 0, none⟩) l l xs := by
  refine ⟨hl, Nat.le_refl _, ⟨by unfold maxLen; omega, hs⟩, fun _ => ⟨_, rfl, h.lt, fun i x hx => ?_⟩⟩
  obtain ⟨c, h1, h2⟩ := hc i x hx
  refine ⟨c, h1, fun j u hu => ?_⟩
  rw [add_none, Nat.zero_add, h.cell]
  exact h2 j u hu
theorem sl_ints {W : World} {g l : Nat} {t : TypeId} (xs : List Int) (h : Blk W g t (xs.map (Value.int .i64)).toArray) (hl : l = xs.length) (hs : l ≤ 17592186044416) (hx : ∀ x ∈ xs, I64 x) : SlIs intR W (some ⟨g, 0, none⟩) l l xs :=
  sl_of_cells h hl hs (fun i x hi => ⟨[.int .i64 x], ⟨rfl, hx x (List.mem_of_getElem? hi)⟩, fun j u hu => by
    match j, hu with
    | 0, hu => simp at hu; subst hu; simp [intR, hi]
    | j + 1, hu => simp at hu⟩)
/-- Blocks laid one behind the other. -/
def allocs : World → List Obj → World
  | w, [] => w
  | w, o :: r => allocs (w.alloc o) r
theorem allocs_bel : ∀ (os : List Obj) (w : World), Below w.heap.size w (allocs w os)
  | [], _ => Below.refl _ _
  | o :: r, w => bel_trans (bel_alloc w o) (allocs_bel r (w.alloc o))
theorem allocs_heap : ∀ (os : List Obj) (w : World) (i : Nat) (o : Obj), os[i]? = some o → (allocs w os).heap[w.heap.size + i]? = some o
  | [], _, _, _, h => by simp at h
  | a :: r, w, 0, o, h => by
    simp at h; subst h
    exact ((allocs_bel r (w.alloc a)).block w.heap.size (by simp)).trans (heap_alloc_new w a)
  | a :: r, w, i + 1, o, h => by
    have := allocs_heap r (w.alloc a) i o (by simpa using h)
    rw [World.size_alloc] at this
    rw [show w.heap.size + (i + 1) = w.heap.size + 1 + i by omega]; exact this
theorem allocs_blk {w : World} {os : List Obj} {t : TypeId} {cs : Array Value} (i : Nat) (h : os[i]? = some (.cells cs t)) : Blk (allocs w os) (w.heap.size + i) t cs := allocs_heap os w i _ h
end Go.Proofs.YtdkjanbfheehoaaGreat
/- append of ints at a step of a region that draws; rows without an element. -/
namespace Go.Proofs.YtdkjanbfheehoaaGreat
open Go.RowKit

/-- append(v, xs...) at ints, in a region that draws its order. -/
theorem step_appS {ops : Array Oper} {o : Oper} {a : Act} {K : Act → World → Prop} {Q : Exit → Act → World → Prop} {E : Prop} {w : World} (hgd : o.guard = none) (s x : Operand)
    (ho : o.op = .call { callee := .builtin .append, args := #[s, x], argTypes := #[23, 23] })
    {base : Nat} {v : Value} {l : Nat} {xs : List Int} {A : Option Addr} {m c : Nat} {ys : List Int} (hs : a.eval s = v) (hx : a.eval x = .slice A m c)
    (h : OwnI w base v l xs) (hy : SlIs intR w A m c ys) (hl : l + m ≤ 17592186044416) (hb : base ≤ w.heap.size)
    (hK : ∀ v' w', OwnI w' base v' (l + m) (xs ++ ys) → w.grownBy w' v.ownBlock → (∀ k, v'.ownBlock = some k → v.ownBlock = some k ∨ w.heap.size ≤ k) → K (a.put o.dst v') w') :
    if Region.wanted o (yielded ops a.tmps) = true then Oper.wp Tryz.prog o a w K Q else E := by
  have hw : Region.wanted o (yielded ops a.tmps) = true := by simp [Region.wanted, hgd]
  rw [if_pos hw]
  obtain ⟨v', w', hrun, h1, h2, h3⟩ := appS h hy hl hb o.type
  unfold Oper.wp execOp
  simp only [ho, resolve, invoke, builtin, Sem.run_bind, Sem.run_pure, Result.andThen_ok, List.map_toArray, List.map_cons, List.map_nil, hs, hx, hrun]
  exact hK _ _ h1 h2 h3
/-- A row that was made without an element. -/
theorem own_empty {w : World} {g base : Nat} (hg : w.heap.size = g) (hb : base ≤ g) : OwnI (w.alloc (.cells #[] 3)) base (.slice (some ⟨g, 0, none⟩) 0 0) 0 [] := by
  subst hg
  have h : OwnI (w.alloc (.cells #[] 3)) w.heap.size (.slice (some ⟨w.heap.size, 0, none⟩) 0 0) 0 [] := ⟨rfl, World.ownsRow_made _ #[] 0 (Nat.le_refl _) (by simp [maxLen]) (by simp)⟩
  exact h.mono hb
end Go.Proofs.YtdkjanbfheehoaaGreat
/- Contracts: reduct.Least, Body. -/
namespace Go.Proofs.YtdkjanbfheehoaaGreat
open Go.RowKit

set_option maxRecDepth 100000 in
set_option maxHeartbeats 1000000 in
theorem least_any (rA : Option Addr) (rl rc : Nat) (rs : List GRule) (N : Nat) (w : World) (h : SlIs ruleR w rA rl rc rs) (hd : defB N rs = true) :
    Calls Tryz.prog 71 #[.int .i64 N, .slice rA rl rc] w fun e w' => ∃ A l c, e = .returned (.tuple #[.slice A l c, .int .i64 0]) ∧ SlIs intR w' A l c (leastL rs N) ∧ Below w.heap.size w w' := by
  have hN : N ≤ 4000 := by
    unfold defB at hd; simp only [Bool.and_eq_true, decide_eq_true_eq] at hd; omega
  have H := Lib.hid h; clear h
  have HD := Lib.hid hd; clear hd
  go_enter Tryz.func71, Tryz.ntmps71
  go_wp2_with fail
  go_fit (rounds_any rA rl rc rs N w H.out HD.out); rintro e w1 ⟨oA, ol, oc, rfl, hsl, hb1⟩
  have holc := hsl.cap
  have hom := hsl.max
  have hlen : ol = N := by rw [hsl.len]; simp [roundsL]
  subst hlen
  have HSL := Lib.hid hsl; clear hsl
  have HB1 := Lib.hid hb1; clear hb1
  go_wp2_with fail
  go_loopw [8, 22] (fun v t wr => ∃ (k lv : Nat), k ≤ ol ∧ t = .int .i64 (k : Int) ∧ OwnI wr w1.heap.size v lv (((List.range k).filter (fun (i : Nat) => decide (0 < (stageF rs ol ol).1 i))).map (fun (i : Nat) => (i : Int) + 1)) ∧ Below w1.heap.size w1 wr) (fun _ t _ => ol - (intOf t).toNat)
  case atStart => exact ⟨0, 0, Nat.zero_le _, rfl, OwnI.nil _ _, Below.refl _ _⟩
  case round =>
    obtain ⟨k, lv, hk, rfl, hown, hbw⟩ := hrel
    have hlv : lv ≤ 4000 := by
      rw [hown.len]
      have := List.length_filter_le (fun (i : Nat) => decide (0 < (stageF rs ol ol).1 i)) (List.range k)
      simp at this ⊢; omega
    have H1 := Lib.hid (HSL.out.ext hbw)
    have hzz := hbw.size
    by_cases hlt : k < ol
    · have hx : (roundsL rs ol)[k]? = some ((stageF rs ol ol).1 k) := by unfold roundsL; simp [hlt]
      generalize hz : (stageF rs ol ol).1 k = z at *
      have hst : ((List.range (k + 1)).filter (fun (i : Nat) => decide (0 < (stageF rs ol ol).1 i))).map (fun (i : Nat) => (i : Int) + 1) = if 0 < z then ((List.range k).filter (fun (i : Nat) => decide (0 < (stageF rs ol ol).1 i))).map (fun (i : Nat) => (i : Int) + 1) ++ [(k : Int) + 1] else ((List.range k).filter (fun (i : Nat) => decide (0 < (stageF rs ol ol).1 i))).map (fun (i : Nat) => (i : Int) + 1) := by
        rw [List.range_succ, List.filter_append, List.map_append]
        by_cases h0 : 0 < z
        · rw [if_pos h0]; simp [hz, h0]
        · rw [if_neg h0]; simp [hz, h0]
      obtain ⟨b, off, rfl, _, hcell, _⟩ := H1.out.int hx
      by_cases h0 : 0 < z
      · obtain ⟨v', w3, hrun, hown3, hg3, hat3⟩ := app1 hown ((k : Int) + 1) (by omega) hzz 23
        have hb3 := bel_grown hbw hg3 hzz (fun q hq => (hown.2.lt q hq).1)
        have HX := Lib.hid hx; clear hx
        have HZ := Lib.hid hz; clear hz
        have HST := Lib.hid hst; clear hst
        have HOWN := Lib.hid hown; clear hown
        have HBW := Lib.hid hbw; clear hbw
        have HRUN := Lib.hid hrun; clear hrun
        have HOWN3 := Lib.hid hown3; clear hown3
        have HG3 := Lib.hid hg3; clear hg3
        have HAT3 := Lib.hid hat3; clear hat3
        have HB3 := Lib.hid hb3; clear hb3
        go_wp2_with (at_builtin; refine wpList_append_run rfl _ _ _ rfl _ _ rfl rfl _ _ HRUN.out ?_)
        go_roundw
        case rel => exact ⟨k + 1, lv + 1, by omega, by go_num, by rw [HST.out, if_pos h0]; exact HOWN3.out, HB3.out⟩
        case measure => simp [intOf]; omega
      · have HX := Lib.hid hx; clear hx
        have HZ := Lib.hid hz; clear hz
        have HST := Lib.hid hst; clear hst
        have HOWN := Lib.hid hown; clear hown
        have HBW := Lib.hid hbw; clear hbw
        go_wp2_with fail
        go_roundw
        case rel => exact ⟨k + 1, lv, by omega, by go_num, by rw [HST.out, if_neg h0]; exact HOWN.out, HBW.out⟩
        case measure => simp [intOf]; omega
    · have hkk : k = ol := by omega
      obtain ⟨vA, vc, hv, hsv⟩ := hown.sl (by omega) (fun x hx => by
        obtain ⟨i, hi, rfl⟩ := List.mem_map.1 hx
        have := List.mem_range.1 (List.mem_filter.1 hi).1
        unfold I64; omega)
      have HOWN := Lib.hid hown; clear hown
      have HBW := Lib.hid hbw; clear hbw
      have HKK := Lib.hid hkk; clear hkk
      have HV := Lib.hid hv; clear hv
      have HSV := Lib.hid hsv; clear hsv
      go_wp2_with fail
      go_ret2
      exact ⟨vA, lv, vc, by rw [← HV.out]; rfl, by have h1 := HSV.out; rw [HKK.out] at h1; exact h1, bel_trans HB1.out HBW.out⟩
end Go.Proofs.YtdkjanbfheehoaaGreat
/- The examples of chapter 19 stand (ostlerlaw19.awake). -/
namespace Go.Proofs.YtdkjanbfheehoaaGreat
open Go.RowKit

theorem slx (w : World) (xs : List Int) (n g : Nat) (hg : w.heap.size = g) (hn : n = xs.length) (hx : ∀ x ∈ xs, I64 x) (hs : n ≤ 17592186044416) : SlIs intR (w.alloc (.cells (xs.map (Value.int .i64)).toArray 3)) (some ⟨g, 0, none⟩) n n xs :=
  sl_ints xs (blk_new hg _ _) hn hs hx
theorem pcells {W : World} {b : Nat} {v0 v1 v2 v3 v4 : Value} (h : Blk W b 27 #[v0, v1, v2, v3, v4]) : W.cell? ⟨b, 0, none⟩ = some v0 ∧ W.cell? ⟨b, 1, none⟩ = some v1 ∧ W.cell? ⟨b, 2, none⟩ = some v2 ∧ W.cell? ⟨b, 3, none⟩ = some v3 ∧ W.cell? ⟨b, 4, none⟩ = some v4 ∧ b < W.heap.size := ⟨h.cell 0, h.cell 1, h.cell 2, h.cell 3, h.cell 4, h.lt⟩

end Go.Proofs.YtdkjanbfheehoaaGreat
/- A region that draws its order and ends in operations that wait for all others: the quiet ones in the order of the text, then the tail. -/
namespace Go.Proofs.YtdkjanbfheehoaaGreat
open Go.RowKit

theorem still_of_quiet {P : Program} {ops : Array Oper} {X : World} {Q : Act → Prop} : ∀ (l : List Oper) (a : Act), wpQuiet P ops (fun w' => w' = X) Q l a → wpStill P ops X Q l a
  | [], _, h => h
  | o :: r, a, h => by
    unfold wpQuiet at h
    unfold wpStill
    split
    · rename_i hw
      rw [if_pos hw] at h
      obtain ⟨v, h1, h2⟩ := h
      have h3 := h1 X rfl
      have h4 := still_of_quiet r _ h2
      unfold Oper.quietAt at h3
      unfold Oper.still
      generalize (execOp a.eval o).run P X = q at *
      match q, h3 with
      | .ok (.value u) w', h3 => obtain ⟨rfl, rfl⟩ := h3; exact ⟨rfl, h4⟩
      | .ok .skip w', h3 => obtain ⟨rfl, rfl⟩ := h3; exact ⟨rfl, h4⟩
      | .ok (.enter f args) w', h3 => obtain ⟨rfl, h5⟩ := h3; exact ⟨rfl, v, h5, h4⟩
    · rename_i hw
      rw [if_neg hw] at h
      exact still_of_quiet r _ h
theorem wp_region_tail {P : Program} {id : Nat} {Q : Exit → Act → World → Prop} {a : Act} {w : World} {l : List Oper} (n : Nat) (fs : List (Addr × Value)) (hm : P.follows .mixedOrders = true) (hB : Region.lexTailB .any l.toArray n = true)
    (hf : ∀ f ∈ fs, w.cell? f.1 = some f.2)
    (h : ∀ X, (∀ f ∈ fs, X.cell? f.1 = some f.2) → X = w.drew → wpQuiet P l.toArray (fun w' => w' = X) (fun a' => wpList P l.toArray Q (l.drop n) a' X) (l.take n) a) : (Code.region id l.toArray true).wp P Q a w :=
  wp_region_still_tail n hm hB (still_of_quiet _ _ (h w.drew hf rfl))
end Go.Proofs.YtdkjanbfheehoaaGreat

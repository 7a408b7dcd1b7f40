/- Contracts: reduct.reduced and what it yields; Reduct. -/
import Derived.Test.YtbfbkpoakmnlpaaRd9
import Derived.OwnWalkIn
import Derived.TacticsInMore
import Derived.LoopNIn
import Derived.LoopIn
import Derived.Shelf.Abstract
import Derived.Deep.RegionWith
namespace Go.Proofs.Ytbfbkpoakmnlpaa
open Go.RowKit Go.Shelf
attribute [local go_sem] Oper.semAt_some

theorem reductL_pre (rs : List GRule) (ms : List Int) (k : Nat) : reductL (rs.take k) ms <+: reductL rs ms := by
  refine ⟨reductL (rs.drop k) ms, ?_⟩
  unfold reductL
  rw [← List.flatMap_append, List.take_append_drop]
theorem sl_one {W : World} {H : Nat} {y : Int} (h : Blk W H 3 #[.int .i64 y]) (hy : I64 y) : SlIs intR W (some ⟨H, 0, none⟩) 1 1 [y] := by
  refine ⟨rfl, Nat.le_refl _, ⟨by unfold maxLen; omega, by omega⟩, fun _ => ⟨_, rfl, h.lt, fun i x hx => ?_⟩⟩
  match i, hx with
  | 0, hx =>
    simp at hx; subst hx
    refine ⟨[.int .i64 y], ⟨rfl, hy⟩, fun j u hu => ?_⟩
    match j, hu with
    | 0, hu => simp at hu; subst hu; rw [add_none]; exact h.cell 0
    | j + 1, hu => simp at hu
  | i + 1, hx => simp at hx
/-- What a rule of a choice is when it is handed on. -/
theorem red_end {x : GRule} {y : Int} {wr Z w3 V : World} {M : List Nat} {H : Nat} {bA wA : Option Addr} {bl bc wl wc : Nat} (hZ : Below wr.heap.size wr Z) (hz : wr.heap.size < Z.heap.size) (hb3 : Below Z.heap.size Z w3)
    (hs2 : SlIs intR w3 bA bl bc x.body) (f2 : Frs Z.heap.size bA bl) (hs3 : SlIs intR w3 wA wl wc x.w) (f3 : Frs Z.heap.size wA wl) (hM : ∀ q ∈ M, q < wr.heap.size) (hx : I64 x.bound) (hy : I64 y)
    (hV : Kept [wr.heap.size] w3 V) (hH : Blk V H 3 #[.int .i64 y]) (hHM : Z.heap.size ≤ H) :
    GoodR M { x with head := [y] } #[.agg #[.bool x.choice, .slice (some ⟨H, 0, none⟩) 1 1, .bool x.sum, .int .i64 x.bound, .slice bA bl bc, .slice wA wl wc]] V ∧ Below wr.heap.size wr V :=
  ⟨⟨some ⟨H, 0, none⟩, 1, 1, bA, bl, bc, wA, wl, wc, rfl, ⟨sl_one hH hy, hx, hs2.keptM hV (fun h0 ad e hm => by have := f2 h0 ad e; simp at hm; omega), hs3.keptM hV (fun h0 ad e hm => by have := f3 h0 ad e; simp at hm; omega)⟩,
      fun _ ad e hm => by cases e; have := hM _ hm; simp at this; omega, f2.off (fun q hq => by have := hM q hq; omega), f3.off (fun q hq => by have := hM q hq; omega)⟩,
    Kept.below (bel_trans hZ hb3) hV (by have := hb3.size; omega) (fun q hq => by simp at hq; omega)⟩
end Go.Proofs.Ytbfbkpoakmnlpaa

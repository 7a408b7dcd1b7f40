/- Contracts: reduct.Rounds (where the rules are not definite). -/
import Derived.Test.YtbfbkpoakmnlpaaRd4
import Derived.Test.YtbfbkpoakmnlpaaG3
import Derived.BigRegion
namespace Go.Proofs.Ytbfbkpoakmnlpaa
open Go.RowKit

def needI (rs : List GRule) (i : Nat) : Nat → Int := fun j => if j < i then (match rs[j]? with | some r => boundOf r | none => 0) else 0
theorem needI_zero (rs : List GRule) : needI rs 0 = fun _ => 0 := by funext j; simp [needI]
theorem needI_step {rs : List GRule} {i : Nat} {r : GRule} (h : rs[i]? = some r) : (fun j => if j = i then boundOf r else needI rs i j) = needI rs (i + 1) := by
  funext j
  unfold needI
  by_cases e : j = i
  · subst e; rw [if_pos rfl, if_pos (by omega), h]
  · rw [if_neg e]
    by_cases h1 : j < i
    · rw [if_pos h1, if_pos (by omega)]
    · rw [if_neg h1, if_neg (by omega)]
theorem blk_set2 {w : World} {g : Nat} {t : TypeId} {cs : Array Value} (h : Blk w g t cs) (i : Nat) (u v : Value) : Blk ((w.setCell ⟨g, i, none⟩ u).setCell ⟨g, i, none⟩ v) g t (cs.setIfInBounds i v) := by
  have := (h.set_ i u).set_ i v
  rwa [show (cs.setIfInBounds i u).setIfInBounds i v = cs.setIfInBounds i v from by simp] at this
/-- The world at the head of the first loop. -/
structure Ini (b rl N : Nat) (W : World) : Prop where
  need : Blk W b 3 (fnCells rl (fun _ => 0))
  ncell : Blk W (b + 1) 23 #[.slice (some ⟨b, 0, none⟩) rl rl]
  uses : Blk W (b + 1 + 1) 30 (valCells (N + 1) (fun _ => .slice none 0 0))
  out : Blk W (b + 1 + 1 + 1) 3 (fnCells N (fun _ => 0))
  ocell : Blk W (b + 1 + 1 + 1 + 1) 23 #[.slice (some ⟨b + 1 + 1 + 1, 0, none⟩) N N]
  now : Blk W (b + 1 + 1 + 1 + 1 + 1) 23 #[.slice none 0 0]
  size : W.heap.size = b + 1 + 1 + 1 + 1 + 1 + 1
theorem blk_new {w : World} {g : Nat} (hg : w.heap.size = g) (t : TypeId) (cs : Array Value) : Blk (w.alloc (.cells cs t)) g t cs := hg ▸ Blk.new w t cs
theorem ini_new (w1 : World) (rl N : Nat) : Ini w1.heap.size rl N ((((((w1.alloc (.cells (fnCells rl (fun _ => 0)) 3)).alloc (.cells #[.slice (some ⟨w1.heap.size, 0, none⟩) rl rl] 23)).alloc (.cells (valCells (N + 1) (fun _ => .slice none 0 0)) 30)).alloc (.cells (fnCells N (fun _ => 0)) 3)).alloc (.cells #[.slice (some ⟨w1.heap.size + 1 + 1 + 1, 0, none⟩) N N] 23)).alloc (.cells #[.slice none 0 0] 23)) :=
  ⟨(((((blk_new rfl _ _).alloc _).alloc _).alloc _).alloc _).alloc _, ((((blk_new (by simp) _ _).alloc _).alloc _).alloc _).alloc _, (((blk_new (by simp) _ _).alloc _).alloc _).alloc _,
    ((blk_new (by simp) _ _).alloc _).alloc _, (blk_new (by simp) _ _).alloc _, blk_new (by simp) _ _, by simp⟩

theorem hin_step {rs : List GRule} {N k : Nat} {f o : Nat → Int} {nw : List Int} (h : RInv rs N k f o nw) (hd : defB N rs = true) :
    RInv rs N (k + 1) (subA rs f nw) (reachL rs (subA rs f nw) ((k : Int) + 2) (o, []) (usedIs rs nw)).1 (reachL rs (subA rs f nw) ((k : Int) + 2) (o, []) (usedIs rs nw)).2 := h.step (defB_ok hd)

end Go.Proofs.Ytbfbkpoakmnlpaa

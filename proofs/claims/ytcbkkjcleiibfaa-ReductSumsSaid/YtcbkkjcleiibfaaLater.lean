/- A region that draws its order and holds calls that only make new memory: one walk in the order of the text. -/
import Derived.Test.YtcbkkjcleiibfaaBase
import Derived.Deep.QuietTactic
import Derived.BigQuiet
namespace Go.Proofs.Ytcbkkjcleiibfaa
open Go.RowKit

/-- A world in which all blocks of W are as they were. -/
structure Later (W : World) where
  w : World
  h : Below W.heap.size W w
instance (W : World) : Nonempty (Later W) := ⟨⟨W, Below.refl _ _⟩⟩
theorem Later.cell {W : World} (u : Later W) {a : Addr} {v : Value} (h : W.cell? a = some v) : u.w.cell? a = some v := by
  rw [u.h.cell (World.block_lt_of_cell? W a h)]; exact h

theorem wp_region_later {P : Program} {id : Nat} {Q : Exit → Act → World → Prop} {a : Act} {w : World} {l : List Oper} (fs : List (Addr × Value))
    (hm : P.follows .mixedOrders = true) (hB : Region.lexB .any l.toArray = true) (hf : ∀ f ∈ fs, w.cell? f.1 = some f.2)
    (h : (∀ f ∈ fs, ∀ u : Later w, u.w.cell? f.1 = some f.2) → wpQuiet P l.toArray (fun w' => ∃ u : Later w, w' = u.w) (fun a' => ∀ w', (∃ u : Later w, w' = u.w) → Q .normal a' w') l a) :
    (Code.region id l.toArray true).wp P Q a w :=
  wp_region_quiet (C := fun w' => ∃ u : Later w, w' = u.w) hm hB ⟨⟨w.drew, (Below.refl _ _).drew⟩, rfl⟩ (by simpa using h (fun f hfs u => u.cell (hf f hfs)))

theorem Calls.later {P : Program} {f : FuncId} {args : Array Value} {W : World} {u : Later W} {v : Value}
    (h : Calls P f args u.w fun e w' => e = .returned v ∧ Below u.w.heap.size u.w w') : Calls P f args u.w fun e w'' => e = .returned v ∧ ∃ u' : Later W, w'' = u'.w :=
  h.mono fun _ _ ⟨he, hm⟩ => ⟨he, ⟨_, bel_trans u.h hm⟩, rfl⟩
theorem Calls.later_same {P : Program} {f : FuncId} {args : Array Value} {W : World} {u : Later W} {v : Value}
    (h : Calls P f args u.w fun e w' => e = .returned v ∧ u.w = w') : Calls P f args u.w fun e w'' => e = .returned v ∧ ∃ u' : Later W, w'' = u'.w :=
  h.mono fun _ _ ⟨he, hm⟩ => ⟨he, u, hm.symm⟩
end Go.Proofs.Ytcbkkjcleiibfaa

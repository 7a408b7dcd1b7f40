/- Contracts: reduct.positive. -/
import Derived.Test.YtbfbkpoakmnlpaaG3
import Derived.Test.YtbfbkpoakmnlpaaRd5
import Derived.Test.YtbfbkpoakmnlpaaRd7
import Derived.Deep.RegionHeldLaw
import Derived.Deep.AppendLies
namespace Go.Proofs.Ytbfbkpoakmnlpaa
open Go.RowKit

/-- A slice of the call's own: its array is new. -/
def Frs (n : Nat) (A : Option Addr) (l : Nat) : Prop := 0 < l → ∀ ad, A = some ad → n ≤ ad.block
theorem Frs.nil (n : Nat) (A : Option Addr) : Frs n A 0 := fun h => absurd h (by simp)
theorem Frs.mono {n m : Nat} {A : Option Addr} {l : Nat} (h : Frs n A l) (hm : m ≤ n) : Frs m A l := fun h0 ad e => Nat.le_trans hm (h h0 ad e)
theorem OwnI.fresh {w : World} {base : Nat} {A : Option Addr} {l c : Nat} {xs : List Int} (h : OwnI w base (.slice A l c) l xs) : Frs base A l := fun h0 ad e => by
  obtain ⟨g, cap, e2, hb, _⟩ := World.ownsRow.form h.2 h0
  cases e2; cases e; exact hb
theorem info_rule : (Try.prog.info? 54).map (·.size) = some 6 := by kernel_rfl
/-- The value of a rule. -/
abbrev ruleV (r : GRule) (h b w : Value) : Value := .agg #[.bool r.choice, h, .bool r.sum, .int .i64 r.bound, b, w]
def PosPost (r : GRule) (ms : List Int) (w : World) (e : Ending) (w' : World) : Prop :=
  (dropB r ms = true ∧ e = .returned (.tuple #[ruleV zeroRule (.slice none 0 0) (.slice none 0 0) (.slice none 0 0), .bool false]) ∧ Below w.heap.size w w') ∨
  (dropB r ms = false ∧ ∃ (bA' : Option Addr) (bl' bc' : Nat) (wA' : Option Addr) (wl' wc' : Nat), e = .returned (.tuple #[ruleV (posRule r ms) (.slice none 0 0) (.slice bA' bl' bc') (.slice wA' wl' wc'), .bool true]) ∧
        RuleIn w' (posRule r ms) none 0 0 bA' bl' bc' wA' wl' wc' ∧ Frs w.heap.size bA' bl' ∧ Frs w.heap.size wA' wl' ∧ Below w.heap.size w w')
theorem dropB_sum {r : GRule} {ms : List Int} (hs : r.sum = true) : dropB r ms = false := by unfold dropB; rw [hs]; rfl
end Go.Proofs.Ytbfbkpoakmnlpaa

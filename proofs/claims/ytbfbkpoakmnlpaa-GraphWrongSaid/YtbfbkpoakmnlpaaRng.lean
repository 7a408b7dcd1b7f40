/- A range over a function whose iterator makes memory and reads memory between two rounds: the rounds say which blocks they write (M). -/
import Derived.Test.YtbfbkpoakmnlpaaG2
import Derived.RangeFuncNested
import Derived.RangeFuncBound
import Derived.RangeFuncCalls
import Derived.RangeFuncLeaves
namespace Go.Proofs.Ytbfbkpoakmnlpaa
open Go.RowKit

/-- The world changes by new blocks and in M alone. -/
theorem Kept.of_below {w a : World} (h : Below w.heap.size w a) (S : List Nat) : Kept S w a := (Kept.refl S w).bel h
theorem kept_putObj (W : World) (l : Nat) (o : Obj) : Kept [l] W (W.putObj l o) :=
  ⟨rfl, rfl, rfl, by simp [World.putObj], fun k _ hk => World.putObj_heap_other (by simpa using hk)⟩
/-- What a round is given and leaves: it goes on (writing in M alone), or it has left. -/
def YieldM {α : Type} (F : Fence) (m : Nat) (P : Program) (l : Nat) (J : List Nat → List α → World → Prop) (Jx : List α → World → Prop) (Good : List Nat → α → Array Value → World → Prop) (xs : List α) : Prop :=
  ∀ M pre x args W1, J M pre W1 → pre ++ [x] <+: xs → Good M x args W1 → YieldAt F m P l args W1 fun e W' =>
    (e = .returned (.bool true) ∧ ∃ M', J M' (pre ++ [x]) W' ∧ Kept M W1 W' ∧ (∀ k ∈ M', k ∈ M ∨ W1.heap.size ≤ k)) ∨ (e = .returned (.bool false) ∧ Jx (pre ++ [x]) W')
/-- The iterator's contract. -/
def IterM {α : Type} (F : Fence) (m : Nat) (P : Program) (gf : Nat) (lb : Array Value) (Good : List Nat → α → Array Value → World → Prop) (xs : List α) (M0 : List Nat) (w : World) : Prop :=
  ∀ (l : Nat) (J : List Nat → List α → World → Prop) (Jx : List α → World → Prop) (M : List Nat) (W : World),
    (∀ M pre A B, J M pre A → Below A.heap.size A B → J M pre B) → (∀ pre A B, Jx pre A → Below A.heap.size A B → Jx pre B) → (∀ M pre A, J M pre A → ∀ k ∈ M, k < A.heap.size) →
    YieldM F (m - 1) P l J Jx Good xs → J M [] W → Below w.heap.size w W → (∀ k ∈ M, k ∈ M0 ∨ w.heap.size ≤ k) →
    CallsIn F m P gf (#[.func (.yield l) #[] #[]] ++ lb) W fun e W' => (∃ v, e = .returned v) ∧ ((∃ M', J M' xs W') ∨ (∃ pre, pre <+: xs ∧ Jx pre W'))
def postM {α : Type} (I : List Nat → List α → World → Prop) (Ix : Code → List α → World → Prop) (M : List Nat) (xs : List α) (W : World) : Exit → Act → World → Prop
  | .normal, _, W' => ∃ M', I M' xs W' ∧ Kept M W W' ∧ (∀ k ∈ M', k ∈ M ∨ W.heap.size ≤ k)
  | .ret, _, W' => Ix .ret xs W' ∧ Kept M W W'
  | .exit id, _, W' => Ix (.exit id) xs W' ∧ Kept M W W'
  | .goto t, _, W' => Ix (.goto t) xs W' ∧ Kept M W W'
  | .panic _, _, _ => False
  | .outgrown, _, _ => False
end Go.Proofs.Ytbfbkpoakmnlpaa

/- Contracts: reduct.Body (for any rule). -/
import Derived.Test.YtbfbkpoakmnlpaaG4
import Derived.Deep.RegionWith
namespace Go.Proofs.Ytbfbkpoakmnlpaa
open Go.RowKit

def wOut (y : Int) : Bool := decide (y < 0) || decide (1048576 < y)
/-- The body's truth as Body tells it, for any rule. -/
def badB (r : GRule) : Bool := decide (8000 < r.body.length) || (decide ((0 : Int) ∈ r.body) || (decide ((-9223372036854775808 : Int) ∈ r.body) || (r.sum && decide (r.w.length ≠ r.body.length))))
def bodyC (r : GRule) (m : List Int) : Bool := !badB r && (!(r.sum && r.w.any wOut) && bodyB r m)
theorem sum_le_mul : ∀ (l : List Int), (∀ y ∈ l, y ≤ 1048576) → l.sum ≤ 1048576 * (l.length : Int)
  | [], _ => by simp
  | y :: r, h => by
    have h1 := h y (by simp)
    have h2 := sum_le_mul r fun z hz => h z (by simp [hz])
    rw [List.sum_cons, List.length_cons, Int.natCast_add, Int.mul_add]; omega
theorem bodyC_ok {r : GRule} (h1 : badB r = false) (h2 : (r.sum && r.w.any wOut) = false) (hx : ∀ x ∈ r.body, I64 x) : BodyOk r := by
  unfold badB at h1
  simp only [Bool.or_eq_false_iff, decide_eq_false_iff_not, Bool.and_eq_false_imp] at h1
  obtain ⟨h3, h4, h5, h6⟩ := h1
  have h7 : r.sum = true → ∀ y ∈ r.w, 0 ≤ y ∧ y ≤ 1048576 := fun hs y hy => by
    rw [hs, Bool.true_and, List.any_eq_false] at h2
    have := h2 y hy
    unfold wOut at this
    simp at this; omega
  have h8 : r.sum = true → r.w.length = r.body.length := fun hs => by
    have := h6 hs; simpa using this
  refine ⟨fun x hm => ?_, h8, fun hs y hy => (h7 hs y hy).1, fun hs => ?_⟩
  · have := (hx x hm).1
    have : x ≠ -9223372036854775808 := fun e => h5 (e ▸ hm)
    omega
  · have h9 := sum_le_mul r.w fun y hy => (h7 hs y hy).2
    have := h8 hs
    omega
theorem SlIs.all64 {w : World} {A : Option Addr} {l c : Nat} {xs : List Int} (h : SlIs intR w A l c xs) : ∀ x ∈ xs, I64 x := fun x hx => by
  obtain ⟨k, hk⟩ := List.getElem?_of_mem hx
  exact (h.int hk).choose_spec.choose_spec.2.2.2

end Go.Proofs.Ytbfbkpoakmnlpaa

/- The law ReductOrder, plain half: the first rule that a set does not satisfy. -/
import Derived.Test.YtdmcclfagjgcgaaGreatMdp
import Derived.Test.YtdmcclfagjgcgaaGreatGL
namespace Go.Proofs.YtdmcclfagjgcgaaGreat
open Go.RowKit

theorem idxGo_is {α : Type} {f : α → Bool} : ∀ (xs : List α) (k : Int), 0 ≤ k → (idxGo f k xs = -1 ∧ ∀ x ∈ xs, f x = false) ∨ ∃ (i : Nat) (x : α), xs[i]? = some x ∧ f x = true ∧ idxGo f k xs = k + i ∧ ∀ (j : Nat) (y : α), j < i → xs[j]? = some y → f y = false
  | [], k, _ => .inl ⟨rfl, by simp⟩
  | x :: r, k, h0 => by
    rw [idxGo_cons]
    cases hf : f x with
    | true => exact .inr ⟨0, x, rfl, hf, by simp, fun j y h => absurd h (by omega)⟩
    | false =>
      rcases idxGo_is (f := f) r (k + 1) (by omega) with ⟨e, h⟩ | ⟨i, y, h1, h2, h3, h4⟩
      · refine .inl ⟨by simp [e], fun z hz => ?_⟩
        rcases List.mem_cons.1 hz with rfl | hz
        · exact hf
        · exact h z hz
      · refine .inr ⟨i + 1, y, by simpa using h1, h2, by simp only [Bool.false_eq_true, if_false]; rw [h3]; push_cast; omega, fun j z hj hz => ?_⟩
        match j, hz with
        | 0, hz => simp at hz; subst hz; exact hf
        | j + 1, hz => exact h4 j z (by omega) (by simpa using hz)
structure OrdLaw (p : GProg) (m : List Int) (a : Int) : Prop where
  c : checkE p m = 0
  lo : -1 ≤ a
  hi : a < (p.rules.length : Int)
  opn : ∀ (i : Nat) (r : GRule), p.rules[i]? = some r → satB r m = false → 0 ≤ a ∧ a ≤ (i : Int)
  sat : ∀ (i : Nat) (r : GRule), p.rules[i]? = some r → satB r m = true → (i : Int) ≠ a
  bd : ∀ r ∈ p.rules, bodyC r m = bodyB r m
theorem ord_law {p : GProg} (hv : validE p = 0) {m : List Int} (hm : incB p.n m = true) : OrdLaw p m (brokenI p m) := by
  have hr := (validE_is hv).rules
  rcases idxGo_is (f := fun r => !satB r m) p.rules 0 (by omega) with ⟨e, h⟩ | ⟨i, x, h1, h2, h3, h4⟩
  · have e : brokenI p m = -1 := e
    refine ⟨check_of hv hm, by omega, by omega, fun i r hi hs => ?_, fun i r _ _ => by omega, fun r hx => bodyC_rule (hr r hx) m⟩
    have := h r (List.mem_of_getElem? hi)
    rw [hs] at this; cases this
  · have e : brokenI p m = (i : Int) := by have : brokenI p m = 0 + (i : Int) := h3; omega
    have hl : i < p.rules.length := (List.getElem?_eq_some_iff.1 h1).1
    refine ⟨check_of hv hm, by omega, by omega, fun j r hj hs => ?_, fun j r hj hs => ?_, fun r hx => bodyC_rule (hr r hx) m⟩
    · rcases Nat.lt_or_ge j i with hlt | hge
      · have := h4 j r hlt hj
        rw [hs] at this; cases this
      · omega
    · intro hji
      have : j = i := by omega
      subst this
      rw [hj] at h1; injection h1 with h1; subst h1
      rw [hs] at h2; cases h2
/-- Whether a rule's heads are all missing, up to the j-th. -/
def missB (r : GRule) (m : List Int) (j : Nat) : Bool := (r.head.take j).all fun a => !decide (a ∈ m)
theorem missB_succ {r : GRule} {m : List Int} {j : Nat} {a : Int} (h : r.head[j]? = some a) : missB r m (j + 1) = (missB r m j && !decide (a ∈ m)) := by
  unfold missB; rw [List.take_add_one, h, List.all_append]; simp
theorem missB_all {r : GRule} {m : List Int} {j : Nat} (h : r.head.length ≤ j) (hb : bodyC r m = bodyB r m) : (!r.choice && bodyC r m && missB r m j) = !satB r m := by
  unfold missB satB
  rw [List.take_of_length_le h, hb]
  have : (r.head.all fun a => !decide (a ∈ m)) = !r.head.any fun a => decide (a ∈ m) := by
    rw [Bool.eq_iff_iff, List.all_eq_true, Bool.not_eq_true', List.any_eq_false]
    exact forall_congr' fun x => forall_congr' fun _ => by simp
  rw [this]
  cases r.choice <;> cases bodyB r m <;> simp
end Go.Proofs.YtdmcclfagjgcgaaGreat

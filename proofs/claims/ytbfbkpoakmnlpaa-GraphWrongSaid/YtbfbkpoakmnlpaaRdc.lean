/- Contracts: reduct.Reduct. -/
import Derived.Test.YtbfbkpoakmnlpaaRda
import Derived.Test.YtbfbkpoakmnlpaaRdb
import Derived.Maps.Own
namespace Go.Proofs.Ytbfbkpoakmnlpaa
open Go.RowKit Go.Shelf
attribute [local go_sem] Oper.semAt_some

theorem MemIn.keptM {A B : World} {a B0 : Nat} {t : TypeId} {ms : List Int} {M : List Nat} (h : MemIn A a ms) (hk : Kept M A B) (hb : Blk A B0 t #[.slice none 0 0]) (hM : ∀ k ∈ M, k = B0 ∨ A.heap.size ≤ k) : MemIn B a ms := by
  obtain ⟨Bm, n, f, h1, h2, h3⟩ := h
  have ha : a ∉ M := fun hm => by
    rcases hM _ hm with rfl | h
    · have := hb.cell 0
      rw [h1] at this; simp at this
    · have := World.block_lt_of_cell? _ _ h1; simp at this; omega
  have hB : Bm ∉ M := fun hm => by
    obtain ⟨D, ⟨es, clock, hh, _⟩, _⟩ := h2
    rcases hM _ hm with rfl | h
    · unfold Blk at hb; rw [hh] at hb; cases hb
    · rw [Array.getElem?_eq_none h] at hh; cases hh
  refine ⟨Bm, n, f, hk.cell h1 ha, ?_, h3⟩
  obtain ⟨D, ⟨es, clock, hh, r1⟩, r2⟩ := h2
  exact ⟨D, ⟨es, clock, (hk.block _ (Array.getElem?_eq_some_iff.1 hh).1 hB).trans hh, r1⟩, r2⟩
/-- The reduct has few rules. -/
theorem redOne_len (m : List Int) (r : GRule) (h : r.head.length ≤ 4000) : (redOne m r).length ≤ 4001 := by
  unfold redOne
  split
  · simp
  · split
    · rw [List.length_map]; have := List.length_filter_le (fun a => decide (a ∈ m)) r.head; omega
    · simp
theorem reductL_len (m : List Int) : ∀ (rs : List GRule), (∀ r ∈ rs, r.head.length ≤ 4000) → (reductL rs m).length ≤ 4001 * rs.length
  | [], _ => by simp [reductL]
  | r :: t, h => by
    have h1 := redOne_len m r (h r (by simp))
    have h2 := reductL_len m t fun x hx => h x (by simp [hx])
    have e : reductL (r :: t) m = redOne m r ++ reductL t m := by simp [reductL]
    rw [e, List.length_append, List.length_cons]; omega
theorem inc_len {n : Int} {xs : List Int} (h : incB n xs = true) (hn : n ≤ 4000) (hn0 : 0 ≤ n) : xs.length ≤ 4000 := by
  have hm := inc_mem h
  have hp : xs.Pairwise (· < ·) := by
    have h0 : ordGo n none xs = true := by unfold incB ordB at h; simp only [Bool.and_eq_true] at h; exact h.1
    exact (ord_pair n xs none h0 (fun x hx => (by have := (hm x hx).1; omega)) (fun _ e => by cases e)).1
  have := nodup_len n.toNat xs (pair_nodup hp) (fun x hx => by have := hm x hx; omega)
  omega
theorem bX_at {X W : World} {b : Nat} {t : TypeId} {cs : Array Value} (h : Blk X b t cs) (hb : Below X.heap.size X W) : Blk W b t cs ∧ b < W.heap.size := ⟨h.bel hb, (h.bel hb).lt⟩
end Go.Proofs.Ytbfbkpoakmnlpaa

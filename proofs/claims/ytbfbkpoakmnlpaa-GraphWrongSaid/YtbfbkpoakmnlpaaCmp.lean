/- Contract: slices.Compact over ints of a row that the call has made. -/
import Derived.Test.YtbfbkpoakmnlpaaVls
import Derived.Test.YtbfbkpoakmnlpaaCmi
import Derived.Shelf.Slices.CompactI
namespace Go.Proofs.Ytbfbkpoakmnlpaa
open Go.RowKit Go.Shelf Go.Sort

theorem compactI_any {wr : World} {base : Nat} {v : Value} {lv : Nat} {xs : List Int} (h : OwnI wr base v lv xs) (hlv : lv ≤ 17592186044416) (hc : (Lib.compact xs).length ≤ xs.length) :
    Calls Try.prog 54 #[v] wr fun e w' => ∃ v', e = .returned v' ∧ OwnI w' base v' (Lib.compact xs).length (Lib.compact xs) ∧ wr.grownBy w' v.ownBlock ∧ v'.ownBlock = v.ownBlock := by
  obtain ⟨hl, hrow⟩ := h
  have hrow2 := hrow
  rcases hrow.2 with ⟨rfl, h0⟩ | ⟨g, cap, cur, rfl, hb, hh, hlc, hcm, hcs, htk⟩
  · have hx : xs = [] := List.eq_nil_of_length_eq_zero (by rw [← hl]; exact h0)
    subst hx
    refine (Any.slices_Compact_int_empty (P := Try.prog) (ρ := compactI_ren) { compactI with } none 0 wr).mono ?_
    rintro e w' ⟨rfl, rfl⟩
    have ec : Lib.compact ([] : List Int) = [] := rfl
    rw [ec]
    subst hl
    exact ⟨_, rfl, ⟨rfl, hrow2⟩, grown_refl _ _, rfl⟩
  · subst hl
    refine (Any.slices_Compact_int (P := Try.prog) (ρ := compactI_ren) { compactI with } g 0 cap xs wr (holds_of_blockI hh (by simpa using htk)) (by omega) hlc).mono ?_
    rintro e w' ⟨rfl, q, rfl⟩
    have e0 : ∀ x : World, x = grow x #[] := fun x => by simp [grow]
    refine ⟨_, rfl, ⟨rfl, ?_⟩, by rw [e0 (putRow _ _ _ _ _)]; exact grownBy_sortedI _, rfl⟩
    have hlen : (Lib.compact xs ++ List.replicate (xs.length - (Lib.compact xs).length) 0).length = xs.length := by simp; omega
    have hw := heap_sortedI (n := q) (os := #[]) (Lib.compact xs ++ List.replicate (xs.length - (Lib.compact xs).length) 0).toArray hh
    rw [← e0] at hw
    have ht := take_putCellsI cur (Lib.compact xs ++ List.replicate (xs.length - (Lib.compact xs).length) 0) (by rw [hlen, hcs]; omega)
    refine ⟨by simp, .inr ⟨g, cap, _, rfl, hb, hw, by omega, hcm, by simp [putCells, hcs], ?_⟩⟩
    rw [Nat.mul_one]
    have h3 := congrArg (List.take (Lib.compact xs).length) ht
    rw [List.take_take, hlen, Nat.min_eq_left hc, ← List.map_take, List.take_append_of_le_length (Nat.le_refl _), List.take_length] at h3
    exact h3
end Go.Proofs.Ytbfbkpoakmnlpaa

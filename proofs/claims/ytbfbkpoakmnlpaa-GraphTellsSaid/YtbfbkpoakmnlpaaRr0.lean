/- Small lemmas: an element of one int, slices off written blocks. -/
import Derived.Test.YtbfbkpoakmnlpaaGS
import Derived.Test.YtbfbkpoakmnlpaaRd8
import Derived.Test.YtbfbkpoakmnlpaaGZ
import Derived.Test.YtbfbkpoakmnlpaaG2
import Derived.Test.YtbfbkpoakmnlpaaG5
namespace Go.Proofs.Ytbfbkpoakmnlpaa
open Go.RowKit

theorem inc_len' {n : Int} {xs : List Int} (h : incB n xs = true) (h0 : 0 ≤ n) : xs.length ≤ n.toNat := by
  have h1 := ((atoms_sub n.toNat xs).2 (by rw [show ((n.toNat : Nat) : Int) = n by omega]; exact h)).length_le
  simpa [atomsL] using h1
theorem stab_one {α : Type} {R : Rep α} {e : TypeId} {T : List Nat} {W : World} {c : List Value} {x : α} (h : Stab R T (W.alloc (.cells c.toArray e)) c x) (hT : W.heap.size ∉ T) : StabS R T (W.alloc (.cells c.toArray e)) (some ⟨W.heap.size, 0, none⟩) 1 1 [x] := fun V hV => by
  have hb := hV.blk (Blk.new W e c.toArray) hT
  refine ⟨rfl, Nat.le_refl _, ⟨by unfold maxLen; omega, by omega⟩, fun _ => ⟨_, rfl, hb.lt, fun i y hy => ?_⟩⟩
  match i, hy with
  | 0, hy =>
    simp at hy; subst hy
    exact ⟨c, h V hV, fun j u hu => by rw [add_none, Nat.zero_add, hb.cell]; simpa using hu⟩
  | i + 1, hy => simp at hy
theorem sl_one' {W : World} {H : Nat} {y : Int} (h : Blk W H 3 #[.int .i64 y]) (hy : I64 y) : SlIs intR W (some ⟨H, 0, none⟩) 1 1 [y] := by
  refine ⟨rfl, Nat.le_refl _, ⟨by unfold maxLen; omega, by omega⟩, fun _ => ⟨_, rfl, h.lt, fun i x hx => ?_⟩⟩
  match i, hx with
  | 0, hx =>
    simp at hx; subst hx
    refine ⟨[.int .i64 y], ⟨rfl, hy⟩, fun j u hu => ?_⟩
    match j, hu with
    | 0, hu => simp at hu; subst hu; rw [add_none]; exact h.cell 0
    | j + 1, hu => simp at hu
  | i + 1, hx => simp at hx
theorem trueB_neg {x : Int} (h : ¬ 0 < x) (m : List Int) : trueB x m = !decide (-x ∈ m) := by unfold trueB; rw [if_neg h]
/-- A slice that lies between the box and the present. -/
theorem off_between {W : World} {X n k0 : Nat} {A : Option Addr} {l c : Nat} {xs : List Int} (h : SlIs intR W A l c xs) (hf : Frs n A l) {T : List Nat} (hT : ∀ k ∈ T, k = X ∨ k < k0 ∨ W.heap.size ≤ k) (hX : X < n) (hk : k0 ≤ n) : Off T A l := fun h0 ad e hm => by
  have h1 := hf h0 ad e
  have h2 := h.blk_lt h0 e
  rcases hT _ hm with h3 | h3 | h3 <;> omega
/-- A slice that was there before. -/
theorem off_before {w0 : World} {A : Option Addr} {l c : Nat} {xs : List Int} (h : SlIs intR w0 A l c xs) {T : List Nat} (hT : ∀ k ∈ T, w0.heap.size ≤ k) : Off T A l := fun h0 ad e hm => by
  have h2 := h.blk_lt h0 e
  have := hT _ hm; omega
theorem RowO.fresh {α : Type} {R : Rep α} {e : TypeId} {S : List Nat} {B : Nat} {W : World} {A : Option Addr} {l c : Nat} {xs : List α} (h : RowO R e S B W (.slice A l c) xs) : Frs B A xs.length := fun h0 ad ea => by
  obtain ⟨_, cs, h2, _⟩ := h
  obtain ⟨g, cap, e2, hb, _⟩ := World.ownsRow.form h2 h0
  cases e2; cases ea; exact hb
end Go.Proofs.Ytbfbkpoakmnlpaa

/- A slice of any elements off written blocks. -/
import Derived.Test.YtbfbkpoakmnlpaaRd9
namespace Go.Proofs.Ytbfbkpoakmnlpaa
open Go.RowKit
theorem SlIs.keptR {α : Type} {R : Rep α} {M : List Nat} {w w' : World} {A : Option Addr} {l c : Nat} {xs : List α} (h : SlIs R w A l c xs) (hk : Kept M w w') (ho : Off M A l) (hr : ∀ cs x, x ∈ xs → R.is w cs x → R.is w' cs x) : SlIs R w' A l c xs := by
  refine ⟨h.1, h.2.1, h.2.2.1, fun h0 => ?_⟩
  obtain ⟨ad, e, hl, hc⟩ := h.2.2.2 h0
  refine ⟨ad, e, Nat.lt_of_lt_of_le hl hk.size, fun i x hx => ?_⟩
  obtain ⟨cs, h1, h2⟩ := hc i x hx
  refine ⟨cs, hr cs x (List.mem_of_getElem? hx) h1, fun j u hu => hk.cell (h2 j u hu) ?_⟩
  have hb : (ad.add (i * R.size + j)).block = ad.block := by unfold Addr.add; split <;> rfl
  rw [hb]
  exact ho h0 ad e
end Go.Proofs.Ytbfbkpoakmnlpaa

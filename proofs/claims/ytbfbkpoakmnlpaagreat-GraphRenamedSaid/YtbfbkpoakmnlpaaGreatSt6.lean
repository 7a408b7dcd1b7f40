/- Stable models (plain): All sorts the stable ones among all subsets. -/
import Derived.Test.YtbfbkpoakmnlpaaGreatG5
namespace Go.Proofs.YtbfbkpoakmnlpaaGreat
theorem nodup_map_on {α β : Type} {f : α → β} : ∀ {l : List α},l.Nodup → (∀ x ∈ l,∀ y ∈ l,f x = f y → x = y) → (l.map f).Nodup
 | [],_,_ => by simp
 | x :: r,h,hf => by
  rw [List.nodup_cons] at h
  rw [List.map_cons,List.nodup_cons]
  refine ⟨fun hm => ?_,nodup_map_on h.2 fun a ha b hb => hf a (by simp [ha]) b (by simp [hb])⟩
  obtain ⟨y,hy,e⟩ := List.mem_map.1 hm
  have := hf x (by simp) y (by simp [hy]) e.symm
  subst this
  exact h.1 hy
theorem pair_nodup2 {m : List Int} (h : m.Pairwise (· < ·)) : m.Nodup := h.imp fun hab e => by omega
end Go.Proofs.YtbfbkpoakmnlpaaGreat

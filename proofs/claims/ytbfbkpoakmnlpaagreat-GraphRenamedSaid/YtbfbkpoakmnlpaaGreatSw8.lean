/- Contracts: stable.costs and stable.Costs. -/
import Derived.Test.YtbfbkpoakmnlpaaGreatG5
import Derived.Test.YtbfbkpoakmnlpaaGreatG6
import Derived.Test.YtbfbkpoakmnlpaaGreatMdp
namespace Go.Proofs.YtbfbkpoakmnlpaaGreat
open Go.RowKit
theorem sum_take_le : ∀ (ys : List Int) (j : Nat),(∀ y ∈ ys,0 ≤ y) → (ys.take j).sum ≤ ys.sum
 | [],j,_ => by simp
 | y :: r,0,h => by have := sum_nonneg h; simpa using this
 | y :: r,j + 1,h => by
  have := sum_take_le r j fun z hz => h z (by simp [hz])
  simp; omega
theorem valid_ok {p : GProg} (h : validE p = 0) : minGoE p.n none p.min = true ∧ 0 ≤ p.n ∧ p.n ≤ 4000 := by
 unfold validE at h
 split at h
 ·cases h
 ·rename_i h1
  have := namedB_n (by simpa using h1)
  split at h
  ·cases h
  ·split at h
   ·rename_i h2; exact absurd h h2
   ·split at h
    ·cases h
    ·split at h
     ·cases h
     ·rename_i h3; exact ⟨by simpa using h3,this⟩
end Go.Proofs.YtbfbkpoakmnlpaaGreat

/- Contracts: stable.costs and stable.Costs. -/
import Derived.Test.YthdjkenhkedjjaaGreatG5
import Derived.Test.YthdjkenhkedjjaaGreatG6
import Derived.Test.YthdjkenhkedjjaaGreatMdp
namespace Go.Proofs.YthdjkenhkedjjaaGreat
open Go.RowKit
structure LevOk (l : GMin) : Prop where
 lit : ∀ x ∈ l.lits,x ≠ 0 ∧ -4000 ≤ x ∧ x ≤ 4000
 len : l.w.length = l.lits.length
 pos : ∀ y ∈ l.w,0 ≤ y
 tot : l.w.sum ≤ 1048576
theorem minGoE_ok {n : Int} (hn : n ≤ 4000) : ∀ (ms : List GMin) (q : Option GMin),minGoE n q ms = true → ∀ l ∈ ms,LevOk l
 | [],_,_,l,hl => by simp at hl
 | m :: r,q,h,l,hl => by
  rw [minGoE_cons] at h
  simp only [Bool.and_eq_true] at h
  rcases List.mem_cons.1 hl with rfl | hl
  ·have h1 := h.1.1
   unfold minOk at h1
   simp only [Bool.and_eq_true,decide_eq_true_eq] at h1
   have h2 := h1.1.1.2
   unfold wtB at h2
   simp only [Bool.and_eq_true,decide_eq_true_eq] at h2
   have h3 := wtGo_spec l.w 0 (by omega) (by omega) h2.1
   refine ⟨fun x hx => ?_,h2.2,fun y hy => by have := h3.1 y hy; omega,by omega⟩
   have h4 := ordGo_mem n _ _ h1.1.1.1 x hx
   have h5 := litB_bd h4
   unfold litB at h4
   simp at h4
   omega
  ·exact minGoE_ok hn r (some m) h.2 l hl
theorem sum_take_le : ∀ (ys : List Int) (j : Nat),(∀ y ∈ ys,0 ≤ y) → (ys.take j).sum ≤ ys.sum
 | [],j,_ => by simp
 | y :: r,0,h => by have := sum_nonneg h; simpa using this
 | y :: r,j + 1,h => by
  have := sum_take_le r j fun z hz => h z (by simp [hz])
  simp; omega
theorem valid_ok {p : GProg} (h : validE p = 0) : minGoE p.n none p.min = true ∧ 0 ≤ p.n ∧ p.n ≤ 4000 := by
 unfold validE at h
 split at h
 ·cases h
 ·rename_i h1
  have := namedB_n (by simpa using h1)
  split at h
  ·cases h
  ·split at h
   ·rename_i h2; exact absurd h h2
   ·split at h
    ·cases h
    ·split at h
     ·cases h
     ·rename_i h3; exact ⟨by simpa using h3,this⟩
theorem valid_lev {p : GProg} (h : validE p = 0) : ∀ l ∈ p.min,LevOk l := minGoE_ok (valid_ok h).2.2 _ _ (valid_ok h).1
end Go.Proofs.YthdjkenhkedjjaaGreat

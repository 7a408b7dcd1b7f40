/- The law StableRenamed, plain half. -/
import Derived.Test.YtdmcclfagjgcgaaGreatGN
import Derived.Test.YtdmcclfagjgcgaaGreatGK
import Derived.Test.YtdmcclfagjgcgaaGreatGL
namespace Go.Proofs.YtdmcclfagjgcgaaGreat
open Go.RowKit

/-- What the law says of one stable model. -/
structure RnmOne (p : GProg) (pm m : List Int) : Prop where
  c : checkE p m = 0
  c2 : checkE (renP pm p) (movedL pm m p.n.toNat) = 0
  mem : decide (movedL pm m p.n.toNat ∈ allL (renP pm p)) = true
  cost : costsE (renP pm p) (movedL pm m p.n.toNat) = costsE p m
  sup : ∀ a ∈ m, (p.rules.any fun r => decide (a ∈ r.head) && bodyC r m) = true
  len : m.length ≤ 12
  i64 : ∀ a ∈ m, I64 a
structure RnmLaw (p : GProg) (pm : List Int) : Prop where
  qv : validE (renP pm p) = 0
  qs : SmallP (renP pm p)
  len : (allL (renP pm p)).length = (allL p).length
  each : ∀ m ∈ allL p, RnmOne p pm m
theorem rnm_law {p : GProg} (h : smallB p = true) {pm : List Int} (hpm : PermOf pm p.n) : RnmLaw p pm := by
  obtain ⟨h1, h2, h3⟩ := small_is h
  have hs := small_P h
  have hn := hs.n0
  have hq := renP_is hs.is hpm
  have hqv := ex_validE hq
  have hap := all_mv hs.is hpm
  refine ⟨hqv, ⟨hq, hn, by have : (renP pm p).n = p.n := rfl; rw [this]; omega, by show (p.rules.map _).length ≤ 1000; rw [List.length_map]; exact hs.few⟩, by rw [← hap.length_eq, List.length_map], fun m hm => ?_⟩
  obtain ⟨a, b⟩ := (all_mem p hn m).1 hm
  have hc := check_of h3 a
  have hc2 : checkE (renP pm p) (movedL pm m p.n.toNat) = 0 := check_of hqv (moved_inc hn)
  refine ⟨hc, hc2, decide_eq_true (hap.mem_iff.1 (List.mem_map.2 ⟨m, hm, rfl⟩)), ?_, fun x hx => ?_, by have := inc_lenN hn a; omega, fun x hx => by have := inc_mem a x hx; unfold I64; omega⟩
  · unfold costsE
    rw [hc, hc2, if_pos rfl, if_pos rfl]
    exact cost_mv hs.is hpm (moved_mvd hpm a)
  · have := supported hs.is a hn b hx
    rw [List.any_eq_true] at this ⊢
    obtain ⟨r, hr, e⟩ := this
    exact ⟨r, hr, by rw [bodyC_rule (hs.is.rules r hr)]; exact e⟩
end Go.Proofs.YtdmcclfagjgcgaaGreat

/- Plain: a list without doubles counts as many as it is long. -/
import Derived.Test.YtbfbkpoakmnlpaaGreatGU
namespace Go.Proofs.YtbfbkpoakmnlpaaGreat
open Go.RowKit
theorem disN_rev : ∀ rs : List Int,disN rs.reverse ≤ rs.length ∧ (disN rs.reverse = rs.length ↔ rs.Nodup)
 | [] => ⟨by simp [disN,disL],by simp [disN,disL]⟩
 | a :: r => by
  obtain ⟨h1,h2⟩ := disN_rev r
  rw [List.reverse_cons,disN_snoc,List.length_cons,List.nodup_cons]
  split
  ·rename_i h
   rw [List.mem_reverse] at h
   refine ⟨by omega,?_⟩
   constructor
   ·intro q; omega
   ·intro q; exact absurd h q.1
  ·rename_i h
   rw [List.mem_reverse] at h
   refine ⟨by omega,?_⟩
   rw [show disN r.reverse + 1 = r.length + 1 ↔ disN r.reverse = r.length from by omega,h2]
   exact ⟨fun q => ⟨h,q⟩,fun q => q.2⟩
theorem disN_lt (ks : List Int) : disN ks < ks.length ↔ ¬ ks.Nodup := by
 obtain ⟨h1,h2⟩ := disN_rev ks.reverse
 rw [List.reverse_reverse,List.length_reverse] at h1 h2
 have h3 : ks.reverse.Nodup ↔ ks.Nodup := by unfold List.Nodup; rw [List.pairwise_reverse]; exact ⟨fun h => h.imp Ne.symm,fun h => h.imp Ne.symm⟩
 rw [h3] at h2
 rw [← h2]; omega
end Go.Proofs.YtbfbkpoakmnlpaaGreat

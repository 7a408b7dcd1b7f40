/- Plain: the form of a shifted program: how many rules, no disjunction, shifted again it stays; what the names are. -/
import Derived.Test.YthdjkenhkedjjaaGreatShn
import Derived.Test.YthdjkenhkedjjaaGreatGSb
namespace Go.Proofs.YthdjkenhkedjjaaGreat
theorem sfRule_length (r : GRule) (x : Int) : (sfRule r x).length = if djB r then (if r.sum then 1 else 0) + r.head.length else 1 := by
 unfold sfRule sfU
 cases djB r with
 | false => simp
 | true =>
  simp only [if_true]
  rw [List.length_append,List.length_map]
  cases r.sum <;> simp
theorem sfL_count {rs : List GRule} {i : Nat} {r : GRule} (h : rs[i]? = some r) (n : Int) : (sfL (rs.take (i + 1)) n).length = (sfL (rs.take i) n).length + (if djB r then (if r.sum then 1 else 0) + r.head.length else 1) := by
 rw [sfL_take h,List.length_append,sfRule_length]
theorem sf_again {p : GProg} (hi : ProgIs p) (hso : SfOk p) : validE (sfP p) = 0 ∧ freeB (sfP p) = true ∧ SfOk (sfP p) ∧ sfP (sfP p) = sfP p := by
 have hq := sf_is hi hso
 have hd := sf_nodj p
 obtain ⟨h1,h2⟩ := sfL_nodj (n := (sfP p).n) hd
 refine ⟨ex_validE hq,nodj_free hd,⟨?_,?_⟩,sfP_nodj hq hd⟩
 ·rw [h2]; have := (namedB_n hq.named).2; simpa using this
 ·rw [h1]; exact hq.few
theorem sf_names {p : GProg} (_hi : ProgIs p) : (sfP p).names.take p.names.length = p.names := by
 show (p.names ++ List.replicate _ ByteArray.empty).take p.names.length = p.names
 rw [List.take_append_of_le_length (Nat.le_refl _),List.take_length]
end Go.Proofs.YthdjkenhkedjjaaGreat

/- The statement StableSets: for every number, list of rules, set, two lists of costs and list of sets the call of the law returns true and each argument reads afterwards as it read before. No condition. -/
import Derived.Carry
import Derived.Test.YtkofkkfjlccjkaaGreatTr6
import Derived.Test.YtkofkkfjlccjkaaGreatOpp
import Derived.Test.YtkofkkfjlccjkaaGreatOpq
import Derived.Test.YtkofkkfjlccjkaaGreatLs1
namespace Go.Proofs.YtkofkkfjlccjkaaGreat
open Go.ChangeShapes Go.WideShapes Go.ChangeAt Go.RowKit

set_option maxRecDepth 100000 in
theorem stableSets_lifted (os : Os) (started : os.Started) (H : Type) (enc : TypeId × Value → H) :
    ReturnsInHanded {} Tryz.checked os 6 .any (Rows.stableSetsSpec.pre6 enc Tryz.prog Tryz.f6 Rows.stableSetsRow.domain false) (Rows.stableSetsSpec.post enc Tryz.prog Tryz.f6 false true false false) := by
  refine returnsInHanded_of_change_sized (C := Tryz.checked) Tryz.own started (by kernel_rfl) Tryz.func6
    (ChangeSpec.witness6 (enc := enc) (C := Tryz.checked) false ⟨#[], #[.int .i64 0, .slice none 0 0, .slice none 0 0, .slice none 0 0, .slice none 0 0, .slice none 0 0], []⟩ 8 (by kernel_rfl) (by kernel_rfl) (by kernel_rfl) (by kernel_rfl)) ?_
  intro W base args ds gs before hval0 hW hcnd hwt0 _
  have hval : ∀ (j : Nat) t v, Tryz.f6.params[j]? = some t → args[j]? = some v → Value.okWide Tryz.prog W .any base t v := hval0
  have hwt : (DataW.weightsEach Tryz.prog (Tryz.f6.params.toList ++ Rows.stableSetsSpec.plain.varTypes Tryz.prog) (ds ++ gs)).all (· ≤ reachBytes) = true := hwt0
  have hW' := hW
  obtain ⟨p, q, hA0, hV, rfl, _, _⟩ := hW
  have hA : DataW.TrodAll enc Tryz.prog W 0 (fun _ => true) true Tryz.f6.params.toList args.toList ds p := hA0
  rw [Tryz.params6] at hA hval hwt
  obtain ⟨v0, v1, v2, v3, v4, v5, d0, d1, d2, d3, d4, d5, p0, p1, p2, p3, p4, p5, rfl, rfl, rfl, h0, h1, h2, h3, h4, h5⟩ := trodAll_six hA
  obtain ⟨rfl, rfl⟩ := trodVars_none hV
  obtain ⟨a0, rfl, rfl, rfl, wa0⟩ := open_int Tryz.underlying3 (hval 0 3 v0 rfl rfl) h0
  have h1k := h1
  obtain ⟨m1, h1⟩ := h1
  obtain ⟨A1, l1, c1, rfl⟩ := okWide_slice Tryz.underlying24 (hval 1 24 v1 rfl rfl)
  obtain ⟨xs1, A, l, c, he, hs1⟩ := opens_rules h1 (fun k hk => by
    have := List.all_eq_true.1 hwt k (DataW.weights_mem_each (j := 1) (t := 24) (d := d1) (by simp) (by simp) k hk)
    simpa using this)
  simp [Value.cells] at he
  obtain ⟨rfl, rfl, rfl⟩ := he
  have h2k := h2
  obtain ⟨m2, h2⟩ := h2
  obtain ⟨A2, l2, c2, rfl⟩ := okWide_slice Tryz.underlying23 (hval 2 23 v2 rfl rfl)
  obtain ⟨xs2, A, l, c, he, hs2⟩ := opens_ints h2 (fun k hk => by
    have := List.all_eq_true.1 hwt k (DataW.weights_mem_each (j := 2) (t := 23) (d := d2) (by simp) (by simp) k hk)
    simpa using this)
  simp [Value.cells] at he
  obtain ⟨rfl, rfl, rfl⟩ := he
  have h3k := h3
  obtain ⟨m3, h3⟩ := h3
  obtain ⟨A3, l3, c3, rfl⟩ := okWide_slice Tryz.underlying23 (hval 3 23 v3 rfl rfl)
  obtain ⟨xs3, A, l, c, he, hs3⟩ := opens_ints h3 (fun k hk => by
    have := List.all_eq_true.1 hwt k (DataW.weights_mem_each (j := 3) (t := 23) (d := d3) (by simp) (by simp) k hk)
    simpa using this)
  simp [Value.cells] at he
  obtain ⟨rfl, rfl, rfl⟩ := he
  have h4k := h4
  obtain ⟨m4, h4⟩ := h4
  obtain ⟨A4, l4, c4, rfl⟩ := okWide_slice Tryz.underlying23 (hval 4 23 v4 rfl rfl)
  obtain ⟨xs4, A, l, c, he, hs4⟩ := opens_ints h4 (fun k hk => by
    have := List.all_eq_true.1 hwt k (DataW.weights_mem_each (j := 4) (t := 23) (d := d4) (by simp) (by simp) k hk)
    simpa using this)
  simp [Value.cells] at he
  obtain ⟨rfl, rfl, rfl⟩ := he
  have h5k := h5
  obtain ⟨m5, h5⟩ := h5
  obtain ⟨A5, l5, c5, rfl⟩ := okWide_slice Tryz.underlying31 (hval 5 31 v5 rfl rfl)
  obtain ⟨xs5, A, l, c, he, hs5⟩ := opens_intss h5 (fun k hk => by
    have := List.all_eq_true.1 hwt k (DataW.weights_mem_each (j := 5) (t := 31) (d := d5) (by simp) (by simp) k hk)
    simpa using this)
  simp [Value.cells] at he
  obtain ⟨rfl, rfl, rfl⟩ := he
  clear hA0 hval0 hwt0 hwt
  simp only [List.append_nil] at hW'
  have hlt : ∀ x, (x ∈ p1 ∨ x ∈ p2 ∨ x ∈ p3 ∨ x ∈ p4 ∨ x ∈ p5) → x.block < W.heap.size := fun x hx => hW'.lt x (by simpa [or_assoc] using hx)
  refine (stableSets_law a0 A1 l1 c1 xs1 A2 l2 c2 xs2 A3 l3 c3 xs3 A4 l4 c4 xs4 A5 l5 c5 xs5 W hs1 hs2 hs3 hs4 hs5).mono fun e W' ⟨he, hb⟩ => ?_
  subst he
  exact ⟨_, rfl, post_of_below (pa := [] ++ (p1 ++ (p2 ++ (p3 ++ (p4 ++ p5))))) (pv := []) hW' (fun _ _ _ => trodAll_mk1 (shut_bool Tryz.underlying4 _))
    (trodAll_mk6 (shut_int Tryz.underlying3 wa0) (Below.trod Tryz.laidOut (by kernel_rfl) (of_decide_eq_true (by kernel_rfl)) h1k hb (fun x hx => hlt x (by simp [hx]))) (Below.trod Tryz.laidOut (by kernel_rfl) (of_decide_eq_true (by kernel_rfl)) h2k hb (fun x hx => hlt x (by simp [hx]))) (Below.trod Tryz.laidOut (by kernel_rfl) (of_decide_eq_true (by kernel_rfl)) h3k hb (fun x hx => hlt x (by simp [hx]))) (Below.trod Tryz.laidOut (by kernel_rfl) (of_decide_eq_true (by kernel_rfl)) h4k hb (fun x hx => hlt x (by simp [hx]))) (Below.trod Tryz.laidOut (by kernel_rfl) (of_decide_eq_true (by kernel_rfl)) h5k hb (fun x hx => hlt x (by simp [hx])))) rfl hb rfl⟩
theorem stableSets_holds : Rows.StableSetsSaid :=
  OpenClaim.holds_of_wide 6 Tryz.f6 rfl rfl rfl rfl rfl rfl rfl ⟨rfl, rfl, rfl, rfl, rfl⟩ rfl rfl rfl rfl rfl (by kernel_rfl) Tryz.func6 (by kernel_rfl)
    (of_decide_eq_true (by kernel_rfl)) (by unfold Func.isWrapper; first | (rw [if_pos (by decide +kernel)]; kernel_rfl) | (rw [if_neg (by decide +kernel)]; exact ⟨rfl, rfl⟩))
    (fun os started H enc _ => stableSets_lifted os started H enc)
#print axioms stableSets_holds
end Go.Proofs.YtkofkkfjlccjkaaGreat

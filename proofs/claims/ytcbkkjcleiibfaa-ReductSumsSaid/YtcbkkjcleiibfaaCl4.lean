/- The statement ReductSums: for every program, every 16-bit number and every byte the call of the law returns true and each argument reads afterwards as it read before. No condition. -/
import Derived.Test.YtcbkkjcleiibfaaOpp
import Derived.Test.YtcbkkjcleiibfaaLw4
namespace Go.Proofs.Ytcbkkjcleiibfaa
open Go.ChangeShapes Go.WideShapes Go.ChangeAt Go.RowKit

set_option maxRecDepth 100000 in
theorem reductSums_lifted (os : Os) (started : os.Started) (H : Type) (enc : TypeId × Value → H) :
    ReturnsInHanded {} Try.checked os 8 .any (Rows.reductSumsSpec.pre6 enc Try.prog Try.f8 Rows.reductSumsRow.domain false) (Rows.reductSumsSpec.post enc Try.prog Try.f8 false true false false) := by
  refine returnsInHanded_of_change_sized (C := Try.checked) Try.own started (by kernel_rfl) Try.func8
    (ChangeSpec.witness6 (enc := enc) (C := Try.checked) false ⟨#[], #[.agg #[.int .i64 0, .slice none 0 0, .slice none 0 0, .slice none 0 0, .slice none 0 0], .int .u16 0, .int .u8 0], []⟩ 8 (by kernel_rfl) (by kernel_rfl) (by kernel_rfl) (by kernel_rfl)) ?_
  intro W base args ds gs before hval0 hW hcnd hwt0 _
  have hval : ∀ (j : Nat) t v, Try.f8.params[j]? = some t → args[j]? = some v → Value.okWide Try.prog W .any base t v := hval0
  have hwt : (DataW.weightsEach Try.prog (Try.f8.params.toList ++ Rows.reductSumsSpec.plain.varTypes Try.prog) (ds ++ gs)).all (· ≤ reachBytes) = true := hwt0
  have hW' := hW
  obtain ⟨p, q, hA0, hV, rfl, _, _⟩ := hW
  have hA : DataW.TrodAll enc Try.prog W 0 (fun _ => true) true Try.f8.params.toList args.toList ds p := hA0
  rw [Try.params8] at hA hval hwt
  obtain ⟨v0, v1, v2, d0, d1, d2, p0, p1, p2, rfl, rfl, rfl, h0, h1, h2⟩ := trodAll_three hA
  obtain ⟨rfl, rfl⟩ := trodVars_none hV
  obtain ⟨a, rfl, rfl, rfl, wa⟩ := open_int Try.underlying37 (hval 1 37 v1 rfl rfl) h1
  obtain ⟨b, rfl, rfl, rfl, wb⟩ := open_int Try.underlying5 (hval 2 5 v2 rfl rfl) h2
  have h0k := h0
  obtain ⟨n0, h0⟩ := h0
  obtain ⟨pr, nA, nl, nc, sA, sl, sc, rA, rl, rc, mA, ml, mc, rfl, hp⟩ := open_prog (hval 0 36 v0 rfl rfl) h0 (fun k hk => by
    have := List.all_eq_true.1 hwt k (DataW.weights_mem_each (j := 0) (t := 36) (d := d0) (by simp) (by simp) k hk)
    simpa using this)
  clear hA0 hval0 hwt0 hwt
  simp only [List.append_nil] at hW'
  have hlt : ∀ x ∈ p0 ++ [] ++ [], x.block < W.heap.size := fun x hx => hW'.lt x (by simpa using hx)
  refine (reductSums_any pr nA nl nc sA sl sc rA rl rc mA ml mc a b W hp (u16_of_wf wa).1 (u16_of_wf wa).2 (u8_of_wf wb).1 (u8_of_wf wb).2).mono fun e W' ⟨he, hb⟩ => ?_
  subst he
  exact ⟨_, rfl, post_of_below (pa := p0 ++ ([] ++ [])) (pv := []) hW' (fun _ _ _ => trodAll_mk1 (shut_bool Try.underlying4 _))
    (trodAll_mk3 (Below.trod Try.laidOut (by kernel_rfl) (of_decide_eq_true (by kernel_rfl)) h0k hb (fun x hx => hlt x (by simpa using hx))) (shut_int Try.underlying37 wa) (shut_int Try.underlying5 wb)) rfl hb rfl⟩
theorem reductSums_holds : Rows.ReductSumsSaid :=
  OpenClaim.holds_of_wide 8 Try.f8 rfl rfl rfl rfl rfl rfl rfl ⟨rfl, rfl, rfl, rfl, rfl⟩ rfl rfl rfl rfl rfl (by kernel_rfl) Try.func8 (by kernel_rfl)
    (of_decide_eq_true (by kernel_rfl)) (by unfold Func.isWrapper; first | (rw [if_pos (by decide +kernel)]; kernel_rfl) | (rw [if_neg (by decide +kernel)]; exact ⟨rfl, rfl⟩))
    (fun os started H enc _ => reductSums_lifted os started H enc)
#print axioms reductSums_holds
end Go.Proofs.Ytcbkkjcleiibfaa

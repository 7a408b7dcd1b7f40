/- The statement ShiftModels: for every program and 16-bit number the call of the law returns true and each argument reads afterwards as it read before. No condition. -/
import Derived.Test.YtceokdbcglbclaaGreatGX
import Derived.Test.YtceokdbcglbclaaGreatLsm
namespace Go.Proofs.YtceokdbcglbclaaGreat
open Go.ChangeShapes Go.WideShapes Go.ChangeAt Go.RowKit
set_option maxRecDepth 100000 in
theorem shiftModels_lifted (os : Os) (started : os.Started) (H : Type) (enc : TypeId × Value → H) :
  ReturnsInHanded {} Tryz.checked os 5 .any (Rows.shiftModelsSpec.pre6 enc Tryz.prog Tryz.f5 Rows.shiftModelsRow.domain false) (Rows.shiftModelsSpec.post enc Tryz.prog Tryz.f5 false true false false) := by
 refine returnsInHanded_of_change_sized (C := Tryz.checked) Tryz.own started (by kernel_rfl) Tryz.func5
  (ChangeSpec.witness6 (enc := enc) (C := Tryz.checked) false ⟨#[],#[.agg #[.int .i64 0,.slice none 0 0,.slice none 0 0,.slice none 0 0,.slice none 0 0],.int .u16 0],[]⟩ 8 (by kernel_rfl) (by kernel_rfl) (by kernel_rfl) (by kernel_rfl)) ?_
 intro W base args ds gs before hval0 hW hcnd hwt0 _
 have hval : ∀ (j : Nat) t v,Tryz.f5.params[j]? = some t → args[j]? = some v → Value.okWide Tryz.prog W .any base t v := hval0
 have hwt : (DataW.weightsEach Tryz.prog (Tryz.f5.params.toList ++ Rows.shiftModelsSpec.plain.varTypes Tryz.prog) (ds ++ gs)).all (· ≤ reachBytes) = true := hwt0
 have hW' := hW
 obtain ⟨p,q,hA0,hV,rfl,_,_⟩ := hW
 have hA : DataW.TrodAll enc Tryz.prog W 0 (fun _ => true) true Tryz.f5.params.toList args.toList ds p := hA0
 rw [Tryz.params5] at hA hval hwt
 obtain ⟨v0,v1,d0,d1,p0,p1,rfl,rfl,rfl,h0,h1⟩ := trodAll_two hA
 obtain ⟨rfl,rfl⟩ := trodVars_none hV
 have h0k := h0
 obtain ⟨m0,h0⟩ := h0
 obtain ⟨pr,nA,nl,nc,sA,sl,sc,rA,rl,rc,mA,ml,mc,rfl,hp⟩ := open_prog (hval 0 27 v0 rfl rfl) h0 (fun k hk => by
  have := List.all_eq_true.1 hwt k (DataW.weights_mem_each (j := 0) (t := 27) (d := d0) (by simp) (by simp) k hk)
  simpa using this)
 obtain ⟨a1,rfl,rfl,rfl,wa1⟩ := open_int Tryz.underlying44 (hval 1 44 v1 rfl rfl) h1
 clear hA0 hval0 hwt0 hwt
 simp only [List.append_nil] at hW'
 have hlt : ∀ x,(x ∈ p0) → x.block < W.heap.size := fun x hx => hW'.lt x (by simpa [or_assoc] using hx)
 refine (shiftModels_any pr nA nl nc sA sl sc rA rl rc mA ml mc a1 W hp (u16_of_wf wa1).1 (u16_of_wf wa1).2).mono fun e W' ⟨he,hb⟩ => ?_
 subst he
 exact ⟨_,rfl,post_of_below (pa := p0 ++ []) (pv := []) hW' (fun _ _ _ => trodAll_mk1 (shut_bool Tryz.underlying4 _))
  (trodAll_mk2 (Below.trod Tryz.laidOut (by kernel_rfl) (of_decide_eq_true (by kernel_rfl)) h0k hb (fun x hx => hlt x (by simp [hx]))) (shut_int Tryz.underlying44 wa1)) rfl hb rfl⟩
theorem shiftModels_holds : Rows.ShiftModelsSaid :=
 OpenClaim.holds_of_wide 5 Tryz.f5 rfl rfl rfl rfl rfl rfl rfl ⟨rfl,rfl,rfl,rfl,rfl⟩ rfl rfl rfl rfl rfl (by kernel_rfl) Tryz.func5 (by kernel_rfl)
  (of_decide_eq_true (by kernel_rfl)) (by unfold Func.isWrapper; first | (rw [if_pos (by decide +kernel)]; kernel_rfl) | (rw [if_neg (by decide +kernel)]; exact ⟨rfl,rfl⟩))
  (fun os started H enc _ => shiftModels_lifted os started H enc)
#print axioms shiftModels_holds
end Go.Proofs.YtceokdbcglbclaaGreat

/- The statement ShiftStable: for every program the call of the law returns true and each argument reads afterwards as it read before. No condition. -/
import Derived.Test.YthdjkenhkedjjaaGreatGX
import Derived.Test.YthdjkenhkedjjaaGreatLss
set_option maxRecDepth 100000
namespace Go.Proofs.YthdjkenhkedjjaaGreat
open Go.ChangeShapes Go.WideShapes Go.ChangeAt Go.RowKit
theorem shiftStable_lifted (os:Os)(started:os.Started)(H:Type)(enc:TypeId×Value→H):
  ReturnsInHanded {} Tryz.checked os 10 .any (Rows.shiftStableSpec.pre6 enc Tryz.prog Tryz.f10 Rows.shiftStableRow.domain false) (Rows.shiftStableSpec.post enc Tryz.prog Tryz.f10 false true false false):=by
 refine returnsInHanded_of_change_sized (C:=Tryz.checked) Tryz.own started (by kernel_rfl) Tryz.func10
  (ChangeSpec.witness6 (enc:=enc) (C:=Tryz.checked) false ⟨#[],#[.agg #[.int .i64 0,.slice none 0 0,.slice none 0 0,.slice none 0 0,.slice none 0 0]],[]⟩ 8 (by kernel_rfl) (by kernel_rfl) (by kernel_rfl) (by kernel_rfl)) ?_
 intro W base args ds gs before hval0 hW hcnd hwt0 _;have hval:∀(j:Nat) t v,Tryz.f10.params[j]? = some t→args[j]? = some v→Value.okWide Tryz.prog W .any base t v:=hval0;have hwt:(DataW.weightsEach Tryz.prog (Tryz.f10.params.toList++Rows.shiftStableSpec.plain.varTypes Tryz.prog) (ds++gs)).all (·≤reachBytes)=true:=hwt0;have hW':=hW
 obtain⟨p,q,hA0,hV,rfl,_,_⟩:=hW
 have hA:DataW.TrodAll enc Tryz.prog W 0 (fun _=>true) true Tryz.f10.params.toList args.toList ds p:=hA0;rw[Tryz.params10]at hA hval hwt
 obtain⟨p0,rfl⟩:∃p0,p0=p:=⟨_,rfl⟩
 obtain⟨v0,d0,rfl,rfl,h0⟩:=trodAll_one hA
 obtain⟨rfl,rfl⟩:=trodVars_none hV
 have h0k:=h0
 obtain⟨m0,h0⟩:=h0
 obtain⟨pr,nA,nl,nc,sA,sl,sc,rA,rl,rc,mA,ml,mc,rfl,hp⟩:=open_prog (hval 0 27 v0 rfl rfl) h0 (fun k hk=>by
  have:=List.all_eq_true.1 hwt k (DataW.weights_mem_each (j:=0) (t:=27) (d:=d0) (by simp) (by simp) k hk)
  simpa using this)
 clear hA0 hval0 hwt0 hwt;simp only[List.append_nil]at hW';have hlt:∀x,(x∈p0)→x.block<W.heap.size:=fun x hx=>hW'.lt x (by simpa[or_assoc]using hx)
 refine(shiftStable_any pr nA nl nc sA sl sc rA rl rc mA ml mc W hp).mono fun e W' ⟨he,hb⟩=>?_
 subst he
 exact⟨_,rfl,post_of_below (pa:=p0) (pv:=[]) hW' (fun _ _ _=>trodAll_mk1 (shut_bool Tryz.underlying4 _))
  (trodAll_mk1 (Below.trod Tryz.laidOut (by kernel_rfl) (of_decide_eq_true (by kernel_rfl)) h0k hb (fun x hx=>hlt x (by simp[hx])))) rfl hb rfl⟩
theorem shiftStable_holds:Rows.ShiftStableSaid:=
 OpenClaim.holds_of_wide 10 Tryz.f10 rfl rfl rfl rfl rfl rfl rfl ⟨rfl,rfl,rfl,rfl,rfl⟩ rfl rfl rfl rfl rfl (by kernel_rfl) Tryz.func10 (by kernel_rfl)
  (of_decide_eq_true (by kernel_rfl)) (by unfold Func.isWrapper;first | (rw[if_pos (by decide +kernel)];kernel_rfl) | (rw[if_neg (by decide +kernel)];exact⟨rfl,rfl⟩))
  (fun os started H enc _=>shiftStable_lifted os started H enc)
#print axioms shiftStable_holds
end Go.Proofs.YthdjkenhkedjjaaGreat

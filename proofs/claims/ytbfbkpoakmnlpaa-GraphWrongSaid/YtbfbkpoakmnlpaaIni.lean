/- An own law for a region that draws its order, in a fence: an invariant over what has come up (as wp_region_inv). -/
import Derived.Test.YtbfbkpoakmnlpaaInv
import Derived.Test.YtbfbkpoakmnlpaaRngb
import Derived.Stop.RegionWithIn
namespace Go.Proofs.Ytbfbkpoakmnlpaa
open Go.RowKit

section
variable {F : Fence} {n : Nat} {P : Program} {ops : Array Oper} {Q : Exit → Act → World → Prop}
theorem wpAnyIn_inv (J : Array Bool → Act → World → Prop)
    (hstep : ∀ listed a w i o, J listed a w → ops[i]? = some o → listed.getD i true = false → (∀ e ∈ o.after, Region.binds .any e = true → listed.getD e.on false = true) →
      ∀ K : Act → World → Prop, (∀ a' w', J (listed.setIfInBounds i true) a' w' → K a' w') → if Region.wanted o (yielded ops a.tmps) = true then o.wpIn F n P a w K Q else (∀ f, o.about P w a.eval = some f → F.fn f) ∧ K (a.put o.dst undef) w)
    (hend : ∀ listed a w, J listed a w → Region.ready .any ops listed = [] → Q .normal a w) : ∀ (fuel : Nat) (listed : Array Bool) (a : Act) (w : World), J listed a w → listed.toList.count false ≤ fuel → wpAnyIn F n P .any ops Q fuel listed a w
  | 0, listed, a, w, hJ, hf => by
    have hr : Region.ready .any ops listed = [] := by
      cases hl : Region.ready .any ops listed with
      | nil => rfl
      | cons i r =>
        obtain ⟨o, _, h2, _⟩ := ready_spec (i := i) (by rw [hl]; simp)
        have := count_set_true h2
        omega
    exact ⟨hr, hend _ _ _ hJ hr⟩
  | fuel + 1, listed, a, w, hJ, hf => by
    refine ⟨hend _ _ _ hJ, fun i hi => ?_⟩
    obtain ⟨o, h1, h2, h3⟩ := ready_spec hi
    have hc := count_set_true h2
    have hs := hstep listed a w i o hJ h1 h2 h3 (wpAnyIn F n P .any ops Q fuel (listed.setIfInBounds i true)) (fun a' w' hJ' => wpAnyIn_inv J hstep hend fuel _ a' w' hJ' (by omega))
    unfold wpOpIn
    rw [h1]
    exact hs
theorem wpIn_region_inv {id : Nat} {a : Act} {w : World} (J : Array Bool → Act → World → Prop) (hm : P.follows .mixedOrders = true) (h0 : J (Array.replicate ops.size false) a w.drew)
    (hstep : ∀ listed a w i o, J listed a w → ops[i]? = some o → listed.getD i true = false → (∀ e ∈ o.after, Region.binds .any e = true → listed.getD e.on false = true) →
      ∀ K : Act → World → Prop, (∀ a' w', J (listed.setIfInBounds i true) a' w' → K a' w') → if Region.wanted o (yielded ops a.tmps) = true then o.wpIn F n P a w K Q else (∀ f, o.about P w a.eval = some f → F.fn f) ∧ K (a.put o.dst undef) w)
    (hend : ∀ listed a w, J listed a w → Region.ready .any ops listed = [] → Q .normal a w) : (Code.region id ops true).wpIn F n P Q a w :=
  wpIn_region_any hm (wpAnyIn_inv J hstep hend ops.size _ _ _ h0 (by
    rw [Array.toList_replicate]
    have := List.count_le_length (a := false) (l := List.replicate ops.size false)
    rw [List.length_replicate] at this; exact this))
/-- append at a step, in a fence. -/
theorem step_appVIn {o : Oper} {a : Act} {K : Act → World → Prop} {E : Prop} {w : World} (hgd : o.guard = none) (s x : Operand) (t : TypeId)
    (ho : o.op = .call { callee := .builtin .append, args := #[s, x], argTypes := #[t, t] }) {v u : Value} (hs : a.eval s = v) (hx : a.eval x = u) {v' : Value} {w' : World}
    (hrun : (Builtin.append_ #[t, t] o.type #[v, u]).run P w = .ok v' w') (hK : K (a.put o.dst v') w') : if Region.wanted o (yielded ops a.tmps) = true then o.wpIn F n P a w K Q else E := by
  have hw : Region.wanted o (yielded ops a.tmps) = true := by simp [Region.wanted, hgd]
  rw [if_pos hw]
  unfold Oper.wpIn
  refine ⟨?_, ?_⟩
  · simp [Oper.about, ho, resolve, Target.leads, Sem.run_pure]
  · rw [Oper.semAt_plain F _ _ (by rw [ho]; intro c hc'; cases hc')]
    simp [execOp, ho, resolve, invoke, builtin, hs, hx, hrun, Result.andThen]
    exact hK
end
end Go.Proofs.Ytbfbkpoakmnlpaa

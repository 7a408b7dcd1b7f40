/- The contract of gprog.Rule. -/
import Derived.Test.YtcbkkjcleiibfaaGp2
namespace Go.Proofs.Ytcbkkjcleiibfaa
open Go.RowKit

def ruleE (r : GRule) (n : Int) : Int :=
  if n < 0 ∨ 4000 < n then 2
  else if incB n r.head = false ∨ (r.choice = true ∧ r.head.length = 0) then 172
  else if ordB n r.body = false then 173
  else if (r.sum = false ∧ (0 < r.w.length ∨ r.bound ≠ 0)) ∨ (r.sum = true ∧ (wtB r.w r.body.length = false ∨ r.bound < 0 ∨ 1048576 < r.bound)) then 174
  else 0

set_option maxHeartbeats 2000000 in
theorem rule_any (r : GRule) (hA : Option Addr) (hl hc : Nat) (bA : Option Addr) (bl bc : Nat) (wA : Option Addr) (wl wc : Nat) (n : Int) (w : World) (hr : RuleIn w r hA hl hc bA bl bc wA wl wc) :
    Calls Try.prog 34 #[.agg #[.bool r.choice, .slice hA hl hc, .bool r.sum, .int .i64 r.bound, .slice bA bl bc, .slice wA wl wc], .int .i64 n] w fun e w' => e = .returned (.int .i64 (ruleE r n)) ∧ Below w.heap.size w w' := by
  have e1 := Lib.hid hr.head.len
  have e2 := Lib.hid hr.body.len
  have e3 := Lib.hid hr.wt.len
  have HR := Lib.hid hr; clear hr
  go_enter Try.func34, Try.ntmps34
  go_wp2_with (first
    | (go_at_call 55; refine (increasing_any _ _ _ _ _ _ (HR.out.head.ext (bel_alloc _ _)) (by omega) (by omega)).mono ?_; rintro e w1 ⟨rfl, hb1⟩; have hc1 := bcell hb1; have hz1 := bsz hb1; have HB1 := bel_trans (bel_alloc _ _) hb1; clear hb1)
    | (go_at_call 35; refine (ordered_any _ _ _ _ _ _ (HR.out.body.ext HB1) (by omega) (by omega)).mono ?_; rintro e w2 ⟨rfl, hb2⟩; have hc2 := bcell hb2; have HB2 := bel_trans HB1 hb2; clear hb2)
    | (go_at_call 36; refine (weights_any _ _ _ _ _ _ (HR.out.wt.ext HB2)).mono ?_; rintro e w3 ⟨rfl, rfl⟩))
  all_goals go_ret
  all_goals refine ⟨ret_int ?_, by first | assumption | exact bel_alloc _ _⟩
  all_goals (unfold ruleE; rw [← e1.out, ← e2.out, ← e3.out]; clear e1 e2 e3; simp_all <;> omega)
end Go.Proofs.Ytcbkkjcleiibfaa
